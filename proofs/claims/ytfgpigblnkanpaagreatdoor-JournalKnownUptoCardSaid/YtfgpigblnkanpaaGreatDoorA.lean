/- Plain words, without the program: the bytes of a number, what reading one gives; blocks of memory that are known whole. No conditions. -/
import Derived.WalkKit
import Derived.Lib.Hide
import Derived.Laws.BytesArg
import Derived.Lib.Varint
import Derived.Lib.VarintBits
import Derived.Lib.Zigzag
import Derived.Deep.QuietTactic
import Derived.BigQuiet
import Derived.Laws.BitsAllLaws
namespace Go.Proofs.YtfgpigblnkanpaaGreatDoor
open Go.RowKit

/-! ### numbers as bytes -/
/-- The bytes of a number, seven bits a byte. -/
def uintL (n : Nat) : List UInt8 := if n < 128 then [n.toUInt8] else (n % 128 + 128).toUInt8 :: uintL (n / 128)
  termination_by n
  decreasing_by omega

theorem uintL_lt {n : Nat} (h : n < 128) : uintL n = [n.toUInt8] := by rw [uintL, if_pos h]
theorem uintL_ge {n : Nat} (h : ¬ n < 128) : uintL n = (n % 128 + 128).toUInt8 :: uintL (n / 128) := by rw [uintL, if_neg h]

theorem uintL_pos (n : Nat) : 1 ≤ (uintL n).length := by
  rw [uintL]; split <;> simp

theorem uintL_len_k (k : Nat) : ∀ n : Nat, n < 128 ^ (k + 1) → (uintL n).length ≤ k + 1 := by
  induction k with
  | zero => intro n h; rw [uintL_lt (by simpa using h)]; simp
  | succ k ih =>
    intro n h
    by_cases hn : n < 128
    · rw [uintL_lt hn]; simp
    · rw [uintL_ge hn]
      have := ih (n / 128) (by rw [Nat.pow_succ] at h; omega)
      simp; omega

theorem uintL_len {n : Nat} (h : n < 18446744073709551616) : (uintL n).length ≤ 10 := uintL_len_k 9 n (by omega)

theorem u64_in {x : Int} (h0 : 0 ≤ x) (h1 : x < 18446744073709551616) : IntKind.u64.wrap x = x := by
  rw [IntKind.wrap_u64]; omega
theorem toUInt8_toNat_lt {n : Nat} (h : n < 256) : n.toUInt8.toNat = n := by
  simp only [Nat.toUInt8, UInt8.toNat_ofNat']; omega

/-- A text of these bytes. -/
def str (l : List UInt8) : ByteArray := ⟨l.toArray⟩
theorem str_data (l : List UInt8) : (str l).data.toList = l := rfl
theorem str_size (l : List UInt8) : (str l).size = l.length := by simp [str, ByteArray.size]
theorem str_of (s : ByteArray) : str s.data.toList = s := by simp [str]
theorem str_inj {a b : List UInt8} (h : str a = str b) : a = b := by simpa [str] using h

def byteV (b : UInt8) : Value := .int .u8 b.toNat
abbrev strV (l : List UInt8) : Value := .string (str l)

theorem strOfNums_bytes (l : List UInt8) : strOfNums (l.map fun b => (b.toNat : Int)) = str l := by
  simp [strOfNums, Function.comp_def, str]

theorem byteV_or {m : Nat} : Value.int .u8 (bits .or .u8 ((m : Int) % 256) 128) = byteV (m % 128 + 128).toUInt8 := by
  rw [Lib.u8_or128_any _ (by omega) (by omega)]
  simp only [byteV, Nat.toUInt8, UInt8.toNat_ofNat', Value.int.injEq, true_and]
  omega
theorem byteV_small {m : Nat} (h : m < 256) : Value.int .u8 m = byteV m.toUInt8 := by rw [byteV, toUInt8_toNat_lt h]

/-- What reading a number gives: the number, how many bytes, the error's number (0: none). -/
def readU (w acc : Nat) : List UInt8 → Nat × Nat × Nat
  | [] => (0, 0, 2)
  | b :: r =>
    if w = 9 ∧ 1 < b.toNat ∨ 0 < w ∧ b.toNat = 0 then (0, 0, 4)
    else if b.toNat < 128 then (acc + b.toNat * 128 ^ w, w + 1, 0)
    else readU (w + 1) (acc + b.toNat % 128 * 128 ^ w) r

theorem readU_nil (w acc : Nat) : readU w acc [] = (0, 0, 2) := rfl
theorem readU_bad {w acc : Nat} {b : UInt8} {r : List UInt8} (h : w = 9 ∧ 1 < b.toNat ∨ 0 < w ∧ b.toNat = 0) : readU w acc (b :: r) = (0, 0, 4) := by rw [readU, if_pos h]
theorem readU_end {w acc : Nat} {b : UInt8} {r : List UInt8} (h : ¬ (w = 9 ∧ 1 < b.toNat ∨ 0 < w ∧ b.toNat = 0)) (h2 : b.toNat < 128) : readU w acc (b :: r) = (acc + b.toNat * 128 ^ w, w + 1, 0) := by rw [readU, if_neg h, if_pos h2]
theorem readU_more {w acc : Nat} {b : UInt8} {r : List UInt8} (h : ¬ (w = 9 ∧ 1 < b.toNat ∨ 0 < w ∧ b.toNat = 0)) (h2 : ¬ b.toNat < 128) : readU w acc (b :: r) = readU (w + 1) (acc + b.toNat % 128 * 128 ^ w) r := by rw [readU, if_neg h, if_neg h2]

theorem pow128 (k : Nat) : 128 ^ k = 2 ^ (7 * k) := by rw [Nat.pow_mul]
/-- A byte more of a number, as it is read. -/
theorem or_more {acc b k : Nat} (ha : acc < 128 ^ k) (hb : b * 128 ^ k < 18446744073709551616) (hk : k ≤ 9) : bits .or .u64 (acc : Int) ((b : Int) * 2 ^ (7 * k)) = ((acc + b * 128 ^ k : Nat) : Int) := by
  have e : (b : Int) * 2 ^ (7 * k) = ((b * 128 ^ k : Nat) : Int) := by rw [pow128]; push_cast; rfl
  have h9 : 128 ^ k ≤ 128 ^ 9 := Nat.pow_le_pow_right (by omega) hk
  rw [e, u64_or_nat acc _ (by omega) hb]
  rw [pow128] at *
  have := Nat.shiftLeft_add_eq_or_of_lt (b := acc) (i := 7 * k) (by simpa using ha) b
  rw [Nat.shiftLeft_eq] at this
  rw [Nat.or_comm, ← this, Nat.add_comm]
theorem or_more_wrap {acc b k : Nat} (ha : acc < 128 ^ k) (hb : b * 128 ^ k < 18446744073709551616) (hk : k ≤ 9) : bits .or .u64 (acc : Int) (IntKind.u64.wrap ((b : Int) * 2 ^ (7 * k))) = ((acc + b * 128 ^ k : Nat) : Int) := by
  have e : (b : Int) * 2 ^ (7 * k) = ((b * 128 ^ k : Nat) : Int) := by rw [pow128]; push_cast; rfl
  have h := or_more ha hb hk
  rw [e] at h ⊢
  rw [IntKind.wrap_u64, Int.emod_eq_of_lt (by omega) (by omega), h]
/-- As the walk spells a byte that is not the last. -/
theorem or_more_low {acc b k : Nat} (ha : acc < 128 ^ k) (hb : b < 256) (hk : k < 9) : bits .or .u64 (acc : Int) (IntKind.u64.wrap (IntKind.u64.wrap (bits .and .u8 (b : Int) 127) * 2 ^ (7 * k))) = ((acc + b % 128 * 128 ^ k : Nat) : Int) := by
  have h8 : 128 ^ k ≤ 128 ^ 8 := Nat.pow_le_pow_right (by omega) (by omega)
  have h2 : b % 128 * 128 ^ k ≤ 128 * 128 ^ 8 := Nat.mul_le_mul (by omega) h8
  have e1 : bits .and .u8 (b : Int) 127 = (b : Int) % 128 := u8_and127 (b : Int) (by omega) (by omega)
  rw [e1, IntKind.wrap_u64 ((b : Int) % 128), Int.emod_eq_of_lt (by omega) (by omega)]
  have := or_more_wrap (b := b % 128) ha (by omega) (by omega)
  rw [← this]; push_cast; rfl
theorem acc_more {acc b k : Nat} (ha : acc < 128 ^ k) : acc + b % 128 * 128 ^ k < 128 ^ (k + 1) := by
  have h1 : (b % 128 + 1) * 128 ^ k ≤ 128 * 128 ^ k := Nat.mul_le_mul_right _ (by omega)
  rw [Nat.add_mul, Nat.one_mul] at h1
  rw [Nat.pow_succ]; omega
theorem fits9 {b k : Nat} (hk : k ≤ 9) (hb : b < 128) (h9 : k = 9 → b ≤ 1) : b * 128 ^ k < 18446744073709551616 := by
  by_cases e : k = 9
  · subst e
    have := h9 rfl
    have : b * 128 ^ 9 ≤ 1 * 128 ^ 9 := Nat.mul_le_mul_right _ this
    omega
  · have h1 : 128 ^ k ≤ 128 ^ 8 := Nat.pow_le_pow_right (by omega) (by omega)
    have h2 : b * 128 ^ k ≤ 128 * 128 ^ 8 := Nat.mul_le_mul (by omega) h1
    omega

theorem drop_byte {s : ByteArray} {i : Nat} (h : i < s.size) : s.data.toList.drop i = s[i] :: s.data.toList.drop (i + 1) := by
  rw [List.drop_eq_getElem_cons (by simpa using h)]; rfl

theorem run_index_at {P : Program} (w : World) (t : TypeId) (s : ByteArray) (i : Int) (n : Nat) (h : P.underlying t = some .string) (hn : n < s.size) (e : i = n) : (Instr.index t (.string s) (.int .i64 i)).run P w = .ok (.int .u8 (s[n]).toNat) w := by
  subst e
  rw [run_index_string w t s .i64 _ h, dif_pos (by omega)]
  simp
theorem ret2 {a b a' b' : Value} (h1 : a = a') (h2 : b = b') : Ending.returned (.tuple #[a, b]) = Ending.returned (.tuple #[a', b']) := by rw [h1, h2]
theorem ret3 {a b c a' b' c' : Value} (h1 : a = a') (h2 : b = b') (h3 : c = c') : Ending.returned (.tuple #[a, b, c]) = Ending.returned (.tuple #[a', b', c']) := by rw [h1, h2, h3]
theorem int_eq {k : IntKind} {a b : Int} (h : a = b) : Value.int k a = Value.int k b := by rw [h]

/-- How long the longest common beginning is. -/
def cpl : List UInt8 → List UInt8 → Nat
  | a :: l, b :: m => if a = b then cpl l m + 1 else 0
  | _, _ => 0
theorem cpl_le : ∀ (l m : List UInt8), cpl l m ≤ l.length ∧ cpl l m ≤ m.length
  | [], _ => by simp [cpl]
  | _ :: _, [] => by simp [cpl]
  | a :: l, b :: m => by
    have := cpl_le l m
    unfold cpl; split
    · simp; omega
    · simp
/-- What is alike up to k goes on from there. -/
theorem cpl_step : ∀ (k : Nat) (l m : List UInt8), k ≤ l.length → k ≤ m.length → (∀ i, i < k → l[i]? = m[i]?) → cpl l m = k + cpl (l.drop k) (m.drop k)
  | 0, _, _, _, _, _ => by simp
  | k + 1, [], _, h, _, _ => by simp at h
  | k + 1, _ :: _, [], _, h, _ => by simp at h
  | k + 1, a :: l, b :: m, h1, h2, h => by
    have e : a = b := by simpa using h 0 (by omega)
    rw [cpl, if_pos e, cpl_step k l m (by simpa using h1) (by simpa using h2) (fun i hi => by simpa using h (i + 1) (by omega))]
    simp; omega

theorem cpl_diff {k : Nat} {l m : List UInt8} (h1 : k < l.length) (h2 : k < m.length) (hx : ∀ i, i < k → l[i]? = m[i]?) (hne : l[k] ≠ m[k]) : cpl l m = k := by
  rw [cpl_step k l m (by omega) (by omega) hx, List.drop_eq_getElem_cons h1, List.drop_eq_getElem_cons h2, cpl, if_neg hne]
  rfl
theorem cpl_full {k : Nat} {l m : List UInt8} (h1 : k ≤ l.length) (h2 : k ≤ m.length) (hx : ∀ i, i < k → l[i]? = m[i]?) (he : k = l.length ∨ k = m.length) : cpl l m = k := by
  rw [cpl_step k l m h1 h2 hx]
  rcases he with e | e
  · rw [e, List.drop_length]; simp [cpl]
  · rw [e, List.drop_length]
    cases l.drop m.length <;> simp [cpl]

/-! ### numbers with a sign -/
/-- A number with a sign, as one without. -/
def zig (n : Int) : Nat := if 0 ≤ n then (2 * n).toNat else (-2 * n - 1).toNat
def zag (n : Nat) : Int := if n % 2 = 0 then ((n / 2 : Nat) : Int) else -((n / 2 : Nat) : Int) - 1
theorem zig_lt {n : Int} (h0 : -9223372036854775808 ≤ n) (h1 : n ≤ 9223372036854775807) : zig n < 18446744073709551616 := by
  unfold zig; split <;> omega
theorem zag_zig (n : Int) : zag (zig n) = n := by
  unfold zig zag
  by_cases h : 0 ≤ n
  · rw [if_pos h, if_pos (by omega)]; omega
  · rw [if_neg h, if_neg (by omega)]; omega
theorem zig_zag (n : Nat) : zig (zag n) = n := by
  unfold zag
  by_cases h : n % 2 = 0
  · rw [if_pos h]; unfold zig; rw [if_pos (by omega)]; omega
  · rw [if_neg h]; unfold zig; rw [if_neg (by omega)]; omega
theorem zig_walk {n : Int} (h0 : -9223372036854775808 ≤ n) (h1 : n ≤ 9223372036854775807) : bits .xor .u64 (IntKind.u64.wrap (IntKind.u64.wrap n * 2)) (IntKind.u64.wrap (n / 9223372036854775808)) = (zig n : Int) := by
  unfold zig
  by_cases h : 0 ≤ n
  · have e1 : IntKind.u64.wrap (IntKind.u64.wrap n * 2) = (((2 * n).toNat : Nat) : Int) := by rw [IntKind.wrap_u64, IntKind.wrap_u64]; omega
    have e2 : IntKind.u64.wrap (n / 9223372036854775808) = ((0 : Nat) : Int) := by rw [IntKind.wrap_u64]; omega
    rw [if_pos h, e1, e2, u64_xor_nat _ _ (by omega) (by omega), Nat.xor_zero]
  · have e1 : IntKind.u64.wrap (IntKind.u64.wrap n * 2) = (((2 * n + 18446744073709551616).toNat : Nat) : Int) := by rw [IntKind.wrap_u64, IntKind.wrap_u64]; omega
    have e2 : IntKind.u64.wrap (n / 9223372036854775808) = ((2 ^ 64 - 1 : Nat) : Int) := by rw [IntKind.wrap_u64]; omega
    rw [if_neg h, e1, e2, u64_xor_nat _ _ (by omega) (by omega), Nat.xor_comm, Lib.xor_ones64 _ (by omega)]
    omega
theorem i64_xor0 (x : Nat) (hx : x < 9223372036854775808) : bits .xor .i64 (x : Int) 0 = x := by
  show IntKind.i64.wrap ((BitVec.ofInt 64 (x : Int) ^^^ BitVec.ofInt 64 0).toNat : Int) = _
  have h2 : (BitVec.ofInt 64 (x : Int)).toNat = x := by
    rw [BitVec.ofInt_natCast, BitVec.toNat_ofNat]; exact Nat.mod_eq_of_lt (by omega)
  rw [BitVec.toNat_xor, h2, IntKind.wrap_i64]
  simp
  omega
theorem bits_xor_comm (k : IntKind) (a b : Int) : bits .xor k a b = bits .xor k b a := by
  show k.wrap _ = k.wrap _
  rw [BitVec.xor_comm]
theorem zag_walk {n : Nat} (h : n < 18446744073709551616) : bits .xor .i64 (wrap64 ((n : Int) / 2)) (wrap64 (-wrap64 (bits .and .u64 (n : Int) 1))) = zag n := by
  rw [Lib.u64_and1 _ (by omega) (by omega)]
  have e1 : wrap64 ((n : Int) / 2) = ((n / 2 : Nat) : Int) := by unfold wrap64; omega
  unfold zag
  by_cases h2 : n % 2 = 0
  · have e2 : wrap64 (-wrap64 ((n : Int) % 2)) = 0 := by unfold wrap64; omega
    rw [if_pos h2, e1, e2, i64_xor0 _ (by omega)]
  · have e2 : wrap64 (-wrap64 ((n : Int) % 2)) = -1 := by unfold wrap64; omega
    rw [if_neg h2, e1, e2, bits_xor_comm, Lib.i64_not _ (by omega)]

/-! ### blocks that are known whole -/
/-- A block that holds these cells, any of which may be written. -/
def Blk (w : World) (b : Nat) (xs : List Value) (t : TypeId) : Prop := w.heap[b]? = some (.cells xs.toArray t (0,0))

theorem Blk.cell {w : World} {b : Nat} {xs : List Value} {t : TypeId} (h : Blk w b xs t) (i : Nat) : w.cell? ⟨b, i, none⟩ = xs[i]? := by
  unfold Blk at h
  simp [World.cell?, h]
theorem Blk.free {w : World} {b : Nat} {xs : List Value} {t : TypeId} (h : Blk w b xs t) (i : Nat) : w.frozen? ⟨b, i, none⟩ = false := by
  unfold Blk at h
  simp [World.frozen?, h]
theorem Blk.lt {w : World} {b : Nat} {xs : List Value} {t : TypeId} (h : Blk w b xs t) : b < w.heap.size := by
  unfold Blk at h
  rcases Nat.lt_or_ge b w.heap.size with h' | h'
  · exact h'
  · simp [Array.getElem?_eq_none h'] at h
theorem Blk.new (w : World) (xs : List Value) (t : TypeId) : Blk (w.alloc (.cells xs.toArray t)) w.heap.size xs t := by
  show (w.heap.push _)[w.heap.size]? = _
  simp
theorem Blk.set {w : World} {b : Nat} {xs : List Value} {t : TypeId} (h : Blk w b xs t) (i : Nat) (v : Value) : Blk (w.setCell ⟨b, i, none⟩ v) b (xs.set i v) t := by
  unfold Blk at *
  simp only [World.setCell, Array.getElem?_modify, h, if_pos]
  simp
theorem Blk.setO {w : World} {b : Nat} {xs : List Value} {t : TypeId} (h : Blk w b xs t) (a : Addr) (ha : a.block ≠ b) (v : Value) : Blk (w.setCell a v) b xs t := by
  unfold Blk at *
  simp only [World.setCell, Array.getElem?_modify, h]
  rw [if_neg ha]
theorem Blk.alloc {w : World} {b : Nat} {xs : List Value} {t : TypeId} (h : Blk w b xs t) (o : Obj) : Blk (w.alloc o) b xs t := by
  have := h.lt
  unfold Blk at *
  rw [Below.heap_alloc _ _ _ this]; exact h
theorem Blk.drew {w : World} {b : Nat} {xs : List Value} {t : TypeId} (h : Blk w b xs t) : Blk w.drew b xs t := h
theorem Blk.below {w w' : World} {B b : Nat} {xs : List Value} {t : TypeId} (h : Blk w b xs t) (hb : Below B w w') (hB : b < B) : Blk w' b xs t := by
  unfold Blk at *
  rw [hb.block b hB]; exact h

theorem below_drewN {B : Nat} {a w : World} (h : Below B a w) (n : Nat) : Below B a (w.drewN n) := h.trans ⟨rfl, rfl, rfl, Nat.le_refl _, fun _ _ => rfl⟩
theorem Blk.drewN {w : World} {b : Nat} {xs : List Value} {t : TypeId} (h : Blk w b xs t) (n : Nat) : Blk (w.drewN n) b xs t := h

theorem bcell {W w1 : World} (hb : Below W.heap.size W w1) : (∀ b o, b < W.heap.size → w1.cell? ⟨b, o, none⟩ = W.cell? ⟨b, o, none⟩) ∧ (∀ b o, b < W.heap.size → w1.frozen? ⟨b, o, none⟩ = W.frozen? ⟨b, o, none⟩) :=
  ⟨fun b o h => hb.cell (p := ⟨b, o, none⟩) h, fun b o h => hb.frozen (p := ⟨b, o, none⟩) h⟩

theorem keepOwns {w w' : World} {base : Nat} {e : TypeId} {size : Nat} {v : Value} {n : Nat} {xs : List Value} (h : w.ownsRow base e size v n xs) (hb : Below w.heap.size w w') : w'.ownsRow base e size v n xs :=
  h.kept (row := none) ⟨hb.os, hb.tape, hb.output, hb.size, fun k hk _ => hb.block k hk⟩ (by cases v.ownBlock <;> simp)

/-- The bytes of a row as a text. -/
theorem conv_bytes {P : Program} {w : World} {b : Nat} {xs : List Value} {t src e dst : TypeId} (h : Blk w b xs t) (hs : P.underlying src = some (.slice e)) (he : P.underlying e = some (.int .u8)) (hd : P.underlying dst = some .string) (l : List UInt8) (rest : List Value) (len cap : Nat) (hl : l.length = len) (hx : xs = l.map byteV ++ rest) :
    (convert src dst (.slice (some ⟨b, 0, none⟩) len cap)).run P w = .ok (.string (str l)) w := by
  rw [run_convert_bytes_arg w src e hs he b 0 len cap (l.map fun b => (b.toNat : Int)) (by simpa using hl) ?_ dst hd, strOfNums_bytes]
  intro i hi
  rw [Nat.zero_add, h.cell, hx, List.getElem?_append_left (by simpa [hl] using hi), List.getElem?_map, List.getD, List.getElem?_map, List.getElem?_eq_getElem (by simpa [hl] using hi)]
  rfl
end Go.Proofs.YtfgpigblnkanpaaGreatDoor
