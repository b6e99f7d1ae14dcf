/- The walk of CodecKnown's numbers. The walk of CodecKnown's short: rows of bytes at each place. The walk of CodecKnown's sums. The walk of CodecKnown's some: nine lists of pairs. -/
import Derived.Test.YtifdibkpaeocfaaGreatDoorNumbers
import Derived.Test.YtifdibkpaeocfaaGreatDoorBack
import Derived.Test.YtifdibkpaeocfaaGreatDoorReads
import Derived.Test.YtifdibkpaeocfaaGreatDoorRef
import Derived.Test.YtifdibkpaeocfaaGreatDoorStr
import Derived.Test.YtifdibkpaeocfaaGreatDoorForms
import Derived.Deep.RegionHeld3
import Derived.Test.YtifdibkpaeocfaaGreatDoorUnpack
import Derived.Test.YtifdibkpaeocfaaGreatDoorUnp
import Derived.Test.YtifdibkpaeocfaaGreatDoorProg
namespace Go.Proofs.YtifdibkpaeocfaaGreatDoor
open Go.RowKit

theorem u64_wrap_in (z : Int) : 0 ≤ IntKind.u64.wrap z ∧ IntKind.u64.wrap z < 18446744073709551616 := by
  rw [IntKind.wrap_u64]; omega
theorem i64_wrap_in (z : Int) : -9223372036854775808 ≤ IntKind.i64.wrap z ∧ IntKind.i64.wrap z ≤ 9223372036854775807 := by
  rw [IntKind.wrap_i64]; omega
theorem w64_in (z : Int) : -9223372036854775808 ≤ wrap64 z ∧ wrap64 z ≤ 9223372036854775807 := by
  unfold wrap64; omega
theorem CodecNumbers_of (x m : Int) (l : List UInt8) (w : World) (hx : 0 ≤ x ∧ x < 18446744073709551616) (hm : -9223372036854775808 ≤ m ∧ m ≤ 9223372036854775807) : Calls Tryz.prog 23 #[.int .u64 x, .int .i64 m, .string (str l)] w fun e w' => e = .returned (.bool true) ∧ Below w.heap.size w w' := by
  have e : x = ((x.toNat : Nat) : Int) := by omega
  rw [e]
  exact CodecNumbers_any x.toNat m l w (by omega) hm.1 hm.2
theorem CodecBack_of (x m : Int) (a b : List UInt8) (w : World) (hx : 0 ≤ x ∧ x < 18446744073709551616) (hm : -9223372036854775808 ≤ m ∧ m ≤ 9223372036854775807) (hg : ErrorLaid w) : Calls Tryz.prog 24 #[.int .u64 x, .int .i64 m, .string (str a), .string (str b)] w fun e w' => e = .returned (.bool true) ∧ Below w.heap.size w w' := by
  have e : x = ((x.toNat : Nat) : Int) := by omega
  rw [e]
  exact CodecBack_any x.toNat m a b w (by omega) hm.1 hm.2 hg
theorem refUint_of (x : Int) (w : World) (hx : 0 ≤ x ∧ x < 18446744073709551616) : Calls Tryz.prog 26 #[.int .u64 x] w fun e w' => e = .returned (strV (uintL x.toNat)) ∧ Below w.heap.size w w' := by
  have e : x = ((x.toNat : Nat) : Int) := by omega
  have := refUint_any x.toNat w (by omega)
  rw [← e] at this
  exact this
set_option maxHeartbeats 1000000 in
set_option maxRecDepth 100000 in
theorem numbers_any (w : World) (hg : ErrorLaid w) : Calls Tryz.prog 8 #[] w fun e w' => e = .returned (.bool true) ∧ Below w.heap.size w w' := by
  go_enter Tryz.func8, Tryz.ntmps8
  go_wp2_with (fail)
  go_loopw [1] (fun kv wr => ∃ k : Nat, kv = .int .i64 k ∧ k ≤ 64 ∧ Below w.heap.size w wr) (fun kv _ => 64 - (intOf kv).toNat)
  case atStart => exact ⟨0, rfl, by omega, Below.refl _ _⟩
  case round =>
    obtain ⟨k, rfl, hk, hbel⟩ := hrel
    by_cases hlt : k < 64
    · have hdk : decide ((k : Int) < 64) = true := by simp; omega
      go_wp2_with (fail)
      obtain ⟨wo, rfl⟩ : ∃ wo : World, wo = wr := ⟨_, rfl⟩
      go_loopw [2] (fun dv wr => ∃ d : Int, dv = .int .i64 d ∧ -2 ≤ d ∧ d ≤ 3 ∧ Below w.heap.size w wr) (fun dv _ => (3 - intOf dv).toNat)
      case atStart => exact ⟨-2, rfl, by omega, by omega, hbel⟩
      case round =>
        clear hbel
        obtain ⟨d, rfl, hd0, hd1, hbel⟩ := hrel
        by_cases hlt2 : d ≤ 2
        · go_wp2_with (fail)
          have hX := u64_wrap_in (IntKind.u64.wrap (2 ^ k) + IntKind.u64.wrap d)
          generalize IntKind.u64.wrap (IntKind.u64.wrap (2 ^ k) + IntKind.u64.wrap d) = X at *
          have HX := Lib.hid hX
          clear hX
          refine (CodecNumbers_of X _ [] _ HX.out (w64_in _)).mono ?_
          rintro e w1 ⟨rfl, hb⟩
          replace hbel := hbel.trans (hb.mono hbel.size)
          clear hb
          go_wp2_with (fail)
          refine (CodecNumbers_of _ _ [120] _ (u64_wrap_in _) (w64_in _)).mono ?_
          rintro e w2 ⟨rfl, hb⟩
          replace hbel := hbel.trans (hb.mono hbel.size)
          clear hb
          go_wp2_with (fail)
          refine (CodecBack_of X _ [128] [0] _ HX.out (w64_in _) (hg.below hbel)).mono ?_
          rintro e w3 ⟨rfl, hb⟩
          replace hbel := hbel.trans (hb.mono hbel.size)
          clear hb
          go_wp2_with (fail)
          refine (refUint_of X _ HX.out).mono ?_
          rintro e w4 ⟨rfl, hb⟩
          replace hbel := hbel.trans (hb.mono hbel.size)
          clear hb
          have hul := uintL_len (n := X.toNat) (by have := HX.out; omega)
          have hadd : ∀ w1 : World, (Op.stringOp .add (str (uintL X.toNat)) ⟨#[0]⟩).run Tryz.prog w1 = .ok (.string (str (uintL X.toNat ++ [0]))) w1 := add_run (uintL X.toNat) [0] (by simp; omega)
          generalize uintL X.toNat = U at *
          go_wp2_with (fail)
          refine (CodecReads_any (U ++ [0]) 0 _ (by simp; omega) (hg.below hbel)).mono ?_
          rintro e w5 ⟨rfl, hb⟩
          replace hbel := hbel.trans (hb.mono hbel.size)
          clear hb
          go_wp2
          go_roundw
          case rel => exact ⟨d + 1, rfl, by omega, by omega, hbel⟩
          case measure => simp [intOf]; omega
        · go_wp2
          go_roundw
          case rel => exact ⟨k + 1, by go_num, by omega, hbel⟩
          case measure => simp [intOf]; omega
    · go_wp2_with (fail)
      refine (works_any _).mono ?_
      rintro e w1 ⟨rfl, hb⟩
      go_wp2
      go_ret
      exact ⟨rfl, hbel.trans (hb.mono hbel.size)⟩
end Go.Proofs.YtifdibkpaeocfaaGreatDoor

namespace Go.Proofs.YtifdibkpaeocfaaGreatDoor
open Go.RowKit

def sevenL : List UInt8 := [0, 1, 2, 127, 128, 129, 255]
def sevenV : List Value := [.int .u8 0, .int .u8 1, .int .u8 2, .int .u8 127, .int .u8 128, .int .u8 129, .int .u8 255]
theorem seven_cell {w : World} {b : Nat} {t : TypeId} (h : Blk w b sevenV t) {j : Nat} (hj : j < 7) : ∃ x : UInt8, w.cell? ⟨b, j, none⟩ = some (.int .u8 x.toNat) := by
  rw [h.cell]
  match j, hj with
  | 0, _ => exact ⟨0, rfl⟩
  | 1, _ => exact ⟨1, rfl⟩
  | 2, _ => exact ⟨2, rfl⟩
  | 3, _ => exact ⟨127, rfl⟩
  | 4, _ => exact ⟨128, rfl⟩
  | 5, _ => exact ⟨129, rfl⟩
  | 6, _ => exact ⟨255, rfl⟩
theorem conv_three (x y z : UInt8) (w1 : World) : (convert 26 9 (.slice (some ⟨w1.heap.size, 0, none⟩) 3 3)).run Tryz.prog (w1.alloc (.cells #[.int .u8 x.toNat, .int .u8 y.toNat, .int .u8 z.toNat] 5)) = .ok (.string (str [x, y, z])) (w1.alloc (.cells #[.int .u8 x.toNat, .int .u8 y.toNat, .int .u8 z.toNat] 5)) :=
  conv_bytes (Blk.new w1 [.int .u8 (x.toNat : Int), .int .u8 (y.toNat : Int), .int .u8 (z.toNat : Int)] 5) Tryz.underlying26 Tryz.underlying5 Tryz.underlying9 [x, y, z] [] _ _ rfl rfl
theorem conv_three' (x y z : UInt8) (w1 : World) : (convert 26 9 (.slice (some ⟨w1.heap.size, 0, none⟩) 3 3)).run Tryz.prog (w1.alloc (.cells #[.int .u8 x.toNat, .int .u8 y.toNat, .int .u8 z.toNat] 5)).drew = .ok (.string (str [x, y, z])) (w1.alloc (.cells #[.int .u8 x.toNat, .int .u8 y.toNat, .int .u8 z.toNat] 5)).drew :=
  conv_bytes (Blk.new w1 [.int .u8 (x.toNat : Int), .int .u8 (y.toNat : Int), .int .u8 (z.toNat : Int)] 5).drew Tryz.underlying26 Tryz.underlying5 Tryz.underlying9 [x, y, z] [] _ _ rfl rfl
set_option maxHeartbeats 8000000 in
set_option maxRecDepth 100000 in
theorem short_any (w : World) (hg : ErrorLaid w) : Calls Tryz.prog 9 #[] w fun e w' => e = .returned (.bool true) ∧ Below w.heap.size w w' := by
  have hB0 := (Below.refl w.heap.size w).alloc (Nat.le_refl _) (.cells sevenV.toArray 5)
  have hb0 := Blk.new w sevenV 5
  have e7 : sevenV.toArray = #[.int .u8 0, .int .u8 1, .int .u8 2, .int .u8 127, .int .u8 128, .int .u8 129, .int .u8 255] := rfl
  rw [e7] at hB0 hb0
  clear e7
  go_enter Tryz.func9, Tryz.ntmps9
  go_wp2_with (fail)
  generalize w.alloc (.cells #[.int .u8 0, .int .u8 1, .int .u8 2, .int .u8 127, .int .u8 128, .int .u8 129, .int .u8 255] 5) = w0 at *
  go_loopw [2] (fun iv wr => ∃ i : Nat, iv = .int .i64 i ∧ i ≤ 512 ∧ Blk wr w.heap.size sevenV 5 ∧ Below w.heap.size w wr) (fun iv _ => 512 - (intOf iv).toNat)
  case atStart => exact ⟨0, rfl, by omega, hb0, hB0⟩
  case round =>
    obtain ⟨i, rfl, hi, hb, hbel⟩ := hrel
    by_cases hlt : i < 512
    · have hdi : decide ((i : Int) < 512) = true := by simp; omega
      have q1 : (i : Int).tmod 8 = ((i % 8 : Nat) : Int) := by rw [Int.tmod_eq_emod_of_nonneg (by omega)]; omega
      have q2 : ((i % 8 : Nat) : Int).tmod 7 = ((i % 8 % 7 : Nat) : Int) := by rw [Int.tmod_eq_emod_of_nonneg (by omega)]; omega
      have q3 : (i : Int).tdiv 8 = ((i / 8 : Nat) : Int) := by rw [Int.tdiv_eq_ediv_of_nonneg (by omega)]; omega
      have q3b : (i : Int) / 8 = ((i / 8 : Nat) : Int) := by omega
      have q6b : (i : Int) / 64 = ((i / 64 : Nat) : Int) := by omega
      have w1 : IntKind.i64.wrap ((i / 8 : Nat) : Int) = ((i / 8 : Nat) : Int) := IntWalk.i64_in _ (by omega)
      have w2 : IntKind.i64.wrap ((i / 64 : Nat) : Int) = ((i / 64 : Nat) : Int) := IntWalk.i64_in _ (by omega)
      have q4 : ((i / 8 : Nat) : Int).tmod 8 = ((i / 8 % 8 : Nat) : Int) := by rw [Int.tmod_eq_emod_of_nonneg (by omega)]; omega
      have q5 : ((i / 8 % 8 : Nat) : Int).tmod 7 = ((i / 8 % 8 % 7 : Nat) : Int) := by rw [Int.tmod_eq_emod_of_nonneg (by omega)]; omega
      have q6 : (i : Int).tdiv 64 = ((i / 64 : Nat) : Int) := by rw [Int.tdiv_eq_ediv_of_nonneg (by omega)]; omega
      have q7 : ((i / 64 : Nat) : Int).tmod 7 = ((i / 64 % 7 : Nat) : Int) := by rw [Int.tmod_eq_emod_of_nonneg (by omega)]; omega
      obtain ⟨x, hx⟩ := seven_cell hb (j := i % 8 % 7) (by omega)
      obtain ⟨y, hy⟩ := seven_cell hb (j := i / 8 % 8 % 7) (by omega)
      obtain ⟨z, hz⟩ := seven_cell hb (j := i / 64 % 7) (by omega)
      have hbs := hbel.size
      have hlt0 := hb.lt
      have r1 : (0 : Int) ≤ ((i % 8 % 7 : Nat) : Int) := by omega
      have r2 : ((i % 8 % 7 : Nat) : Int) < 7 := by omega
      have r3 : (0 : Int) ≤ ((i / 8 % 8 % 7 : Nat) : Int) := by omega
      have r4 : ((i / 8 % 8 % 7 : Nat) : Int) < 7 := by omega
      have r5 : (0 : Int) ≤ ((i / 64 % 7 : Nat) : Int) := by omega
      have r6 : ((i / 64 % 7 : Nat) : Int) < 7 := by omega
      have c3 := conv_three x y z wr
      have c4 := conv_three' x y z wr
      generalize i / 64 = m at *
      generalize m % 7 = c at *
      generalize i / 8 = j at *
      generalize j % 8 = j8 at *
      generalize j8 % 7 = b' at *
      generalize i % 8 = i8 at *
      generalize i8 % 7 = a at *
      go_wp2_with (fail)
      go_region_with (fail)
      all_goals
        have hB2 := (hbel.alloc hbs (.cells #[.int .u8 x.toNat, .int .u8 y.toNat, .int .u8 z.toNat] 5)).drew
        have hb2 : Blk (wr.alloc (.cells #[.int .u8 x.toNat, .int .u8 y.toNat, .int .u8 z.toNat] 5)).drew w.heap.size sevenV 5 := Blk.drew (Blk.alloc hb _)
        clear q1 q2 q3 q3b q4 q5 q6 q6b q7 w1 w2 c3 c4 hx hy hz hbel hb r1 r2 r3 r4 r5 r6
        have exyz : [x, y, z].length = 3 := rfl
        generalize (wr.alloc (.cells #[.int .u8 x.toNat, .int .u8 y.toNat, .int .u8 z.toNat] 5)).drew = wq at *
        generalize [x, y, z] = L at *
        have eL := str_size L
        rw [exyz] at eL
        have HE := Lib.hid exyz
        clear exyz
        go_wp2_with (fail)
        go_loopw [4] (fun nv wr => ∃ n : Nat, nv = .int .i64 n ∧ n ≤ 4 ∧ Blk wr w.heap.size sevenV 5 ∧ Below w.heap.size w wr) (fun nv _ => 4 - (intOf nv).toNat)
        case atStart => exact ⟨0, rfl, by omega, hb2, hB2⟩
        case round =>
          clear hb2 hB2
          obtain ⟨n, rfl, hn, hb, hbel⟩ := hrel
          by_cases hlt2 : n ≤ 3
          · have hdn : decide ((n : Int) ≤ 3) = true := by simp; omega
            have hx : (str L).extract 0 n = str (L.take n) := by rw [str_extract]; simp
            have hl3 : (L.take n).length ≤ 9223372036854775807 := by rw [List.length_take, HE.out]; omega
            generalize L.take n = T at *
            have s0 : (0 : Int) ≤ n := by omega
            have s1 : (n : Int) ≤ 3 := by omega
            go_wp2_with (fail)
            obtain ⟨wo, rfl⟩ : ∃ wo : World, wo = wr := ⟨_, rfl⟩
            go_loopw [5] (fun av wr => ∃ a : Int, av = .int .i64 a ∧ -1 ≤ a ∧ a ≤ 5 ∧ Blk wr w.heap.size sevenV 5 ∧ Below w.heap.size w wr) (fun av _ => (5 - intOf av).toNat)
            case atStart => exact ⟨-1, rfl, by omega, by omega, hb, hbel⟩
            case round =>
              clear hb hbel
              obtain ⟨a, rfl, ha0, ha1, hb, hbel⟩ := hrel
              by_cases hlt3 : a ≤ 4
              · go_wp2_with (fail)
                refine (CodecReads_any T a _ hl3 (hg.below hbel)).mono ?_
                rintro e x1 ⟨rfl, hc⟩
                replace hb := hb.below hc hb.lt
                replace hbel := hbel.trans (hc.mono hbel.size)
                clear hc
                go_wp2_with (fail)
                refine (CodecForms_any T a _ hl3 (by omega) (by omega)).mono ?_
                rintro e x2 ⟨rfl, hc⟩
                replace hb := hb.below hc hb.lt
                replace hbel := hbel.trans (hc.mono hbel.size)
                clear hc
                go_wp2
                go_roundw
                case rel => exact ⟨a + 1, rfl, by omega, by omega, hb, hbel⟩
                case measure => simp [intOf]; omega
              · go_wp2
                go_roundw
                case rel => exact ⟨n + 1, by go_num, by omega, hb, hbel⟩
                case measure => simp [intOf]; omega
          · go_wp2
            go_roundw
            case rel => exact ⟨i + 1, by go_num, by omega, hb, hbel⟩
            case measure => simp [intOf]; omega
    · have h7 : ∀ j, j < 7 → ∃ x : UInt8, wr.cell? ⟨w.heap.size, j, none⟩ = some (.int .u8 x.toNat) := fun j hj => seven_cell hb hj
      go_wp2_with (fail)
      go_loopw [6, 7] (fun sv iv wr => ∃ (i : Nat) (s : List UInt8), iv = .int .i64 i ∧ sv = .string (str s) ∧ Hid (s.length = i) ∧ i ≤ 12 ∧ Blk wr w.heap.size sevenV 5 ∧ Below w.heap.size w wr) (fun _ iv _ => 12 - (intOf iv).toNat)
      case atStart => exact ⟨0, [], rfl, rfl, rfl, by omega, hb, hbel⟩
      case round =>
        clear hb hbel h7
        obtain ⟨m, s, rfl, rfl, HS, hm, hb, hbel⟩ := hrel
        have es := str_size s
        rw [HS.out] at es
        by_cases hlt2 : m < 12
        · have hdm : decide ((m : Int) < 12) = true := by simp; omega
          go_wp2_with (fail)
          obtain ⟨wo, rfl⟩ : ∃ wo : World, wo = wr := ⟨_, rfl⟩
          go_loopw [8] (fun kv wr => ∃ k : Nat, kv = .int .i64 k ∧ k ≤ 7 ∧ Blk wr w.heap.size sevenV 5 ∧ Below w.heap.size w wr) (fun kv _ => 7 - (intOf kv).toNat)
          case atStart => exact ⟨0, rfl, by omega, hb, hbel⟩
          case round =>
            clear hb hbel
            obtain ⟨k, rfl, hk, hb, hbel⟩ := hrel
            by_cases hlt3 : k < 7
            · obtain ⟨x, hx⟩ := seven_cell hb hlt3
              have hbs := hbel.size
              have hlt0 := hb.lt
              have hbS := hb
              have hcv := conv_one x wr
              have hadd := add_run s [x] (by rw [HS.out]; simp; omega)
              have hB2 := hbel.alloc hbs (.cells #[.int .u8 x.toNat] 5)
              have hb2 := Blk.alloc hb (.cells #[.int .u8 x.toNat] 5)
              go_wp2_with (fail)
              refine (CodecReads_any (s ++ [x]) 0 _ (by rw [List.length_append, HS.out]; simp; omega) (hg.below hB2)).mono ?_
              rintro e x1 ⟨rfl, hc⟩
              replace hb2 := hb2.below hc hb2.lt
              replace hB2 := hB2.trans (hc.mono hB2.size)
              clear hc hcv hadd hx hb hbS
              obtain ⟨x, hx⟩ := seven_cell hb2 hlt3
              have hcv := conv_one x x1
              have hadd1 : ∀ w1 : World, (Op.stringOp .add ⟨#[5]⟩ (str s)).run Tryz.prog w1 = .ok (.string (str ([5] ++ s))) w1 := add_run [5] s (by rw [HS.out]; simp; omega)
              have hadd2 := add_run ([5] ++ s) [x] (by simp only [List.length_append, HS.out]; simp; omega)
              have hadd3 : ∀ w1 : World, (Op.stringOp .add (str ([5] ++ s ++ [x])) ⟨#[0]⟩).run Tryz.prog w1 = .ok (.string (str ([5] ++ s ++ [x] ++ [0]))) w1 := add_run ([5] ++ s ++ [x]) [0] (by simp only [List.length_append, HS.out]; simp; omega)
              have hl5 : ([5] ++ s ++ [x] ++ [0]).length ≤ 9223372036854775807 := by simp only [List.length_append, HS.out]; simp; omega
              have hB3 := hB2.alloc hB2.size (.cells #[.int .u8 x.toNat] 5)
              have hb3 := Blk.alloc hb2 (.cells #[.int .u8 x.toNat] 5)
              generalize hL4 : [5] ++ s ++ [x] ++ [0] = L4 at *
              generalize [5] ++ s ++ [x] = L3 at *
              generalize [5] ++ s = L2 at *
              clear hL4
              go_wp2_with (fail)
              refine (CodecReads_any L4 1 _ hl5 (hg.below hB3)).mono ?_
              rintro e x2 ⟨rfl, hc⟩
              replace hb3 := hb3.below hc hb3.lt
              replace hB3 := hB3.trans (hc.mono hB3.size)
              go_wp2
              go_roundw
              case rel => exact ⟨k + 1, by go_num, by omega, hb3, hB3⟩
              case measure => simp [intOf]; omega
            · have hadd : ∀ w1 : World, (Op.stringOp .add (str s) ⟨#[255]⟩).run Tryz.prog w1 = .ok (.string (str (s ++ [255]))) w1 := add_run s [255] (by rw [HS.out]; simp; omega)
              obtain ⟨t, HT⟩ : ∃ t, Hid (t = s ++ [255]) := ⟨_, (rfl : s ++ [255] = _)⟩
              rw [← HT.out] at hadd
              go_wp2
              go_roundw
              case rel => exact ⟨m + 1, t, by go_num, rfl, by show _ = _; rw [HT.out, List.length_append, HS.out]; rfl, by omega, hb, hbel⟩
              case measure => simp [intOf]; omega
        · go_wp2_with (fail)
          refine (CodecReads_any [] 0 _ (by simp) (hg.below hbel)).mono ?_
          rintro e x1 ⟨rfl, hc⟩
          replace hbel := hbel.trans (hc.mono hbel.size)
          clear hc
          go_wp2_with (fail)
          refine (CodecReads_any [] 4611686018427387904 _ (by simp) (hg.below hbel)).mono ?_
          rintro e x1 ⟨rfl, hc⟩
          replace hbel := hbel.trans (hc.mono hbel.size)
          clear hc
          go_wp2_with (fail)
          refine (CodecReads_any [97] (-9223372036854775808) _ (by simp) (hg.below hbel)).mono ?_
          rintro e x1 ⟨rfl, hc⟩
          replace hbel := hbel.trans (hc.mono hbel.size)
          go_wp2
          go_ret
          exact ⟨rfl, hbel⟩
end Go.Proofs.YtifdibkpaeocfaaGreatDoor

namespace Go.Proofs.YtifdibkpaeocfaaGreatDoor
open Go.RowKit

theorem conv_one'' (x : Int) (h0 : 0 ≤ x) (h1 : x < 256) (w1 : World) : ∃ X : UInt8, (convert 26 9 (.slice (some ⟨w1.heap.size, 0, none⟩) 1 1)).run Tryz.prog (w1.alloc (.cells #[.int .u8 x] 5)) = .ok (.string (str [X])) (w1.alloc (.cells #[.int .u8 x] 5)) := by
  refine ⟨x.toNat.toUInt8, ?_⟩
  have e : x = (x.toNat.toUInt8.toNat : Int) := by rw [toUInt8_toNat_lt (by omega)]; omega
  have := conv_one x.toNat.toUInt8 w1
  rw [← e] at this
  exact this
theorem conv_zeros (n : Nat) (w1 : World) : (convert 26 9 (.slice (some ⟨w1.heap.size, 0, none⟩) n n)).run Tryz.prog (w1.alloc (.cells (zerosV n).toArray 5)) = .ok (.string (str (List.replicate n 0))) (w1.alloc (.cells (zerosV n).toArray 5)) := by
  refine conv_bytes (Blk.new w1 (zerosV n) 5) Tryz.underlying26 Tryz.underlying5 Tryz.underlying9 (List.replicate n 0) [] n n (by simp) ?_
  simp [zerosV, byteV]
set_option maxHeartbeats 1000000 in
set_option maxRecDepth 100000 in
theorem sums_any (w : World) : Calls Tryz.prog 11 #[] w fun e w' => e = .returned (.bool true) ∧ Below w.heap.size w w' := by
  go_enter Tryz.func11, Tryz.ntmps11
  go_wp2_with (fail)
  go_loopw [1, 2] (fun sv iv wr => ∃ (i : Nat) (s : List UInt8), iv = .int .i64 i ∧ sv = .string (str s) ∧ s.length = i ∧ i ≤ 256 ∧ Below w.heap.size w wr) (fun _ iv _ => 256 - (intOf iv).toNat)
  case atStart => exact ⟨0, [], rfl, rfl, rfl, by omega, Below.refl _ _⟩
  case round =>
    obtain ⟨i, s, rfl, rfl, hs, hi, hbel⟩ := hrel
    by_cases hlt : i < 256
    · have hbs := hbel.size
      have hw : (i : Int) % 256 = i := by omega
      obtain ⟨X, hX⟩ := conv_one'' (i : Int) (by omega) (by omega) wr
      have hadd := add_run s [X] (by simp; omega)
      obtain ⟨t, HT⟩ : ∃ t, Hid (t = s ++ [X]) := ⟨_, (rfl : s ++ [X] = _)⟩
      have htl : t.length = i + 1 := by rw [HT.out]; simp [hs]
      have HTL := Lib.hid htl
      rw [← HT.out] at hadd
      have HS := Lib.hid hs
      clear hs htl
      have et := str_size t
      rw [HTL.out] at et
      have hB1 := hbel.alloc hbs (.cells #[.int .u8 (i : Int)] 5)
      go_wp2_with (fail)
      refine (CodecNumbers_of (i : Int) (-(i : Int)) t _ (by omega) (by omega)).mono ?_
      rintro e w1 ⟨rfl, hb⟩
      replace hB1 := hB1.trans (hb.mono hB1.size)
      clear hb hX
      have hcz := conv_zeros i w1
      have hmk := make_bytes w1 i (by omega) (i : Int) rfl
      have hB2 := hB1.alloc hB1.size (.cells (zerosV i).toArray 5)
      go_wp2_with (fail)
      refine (CodecNumbers_of 0 0 (List.replicate i 0) _ (by omega) (by omega)).mono ?_
      rintro e w2 ⟨rfl, hb⟩
      replace hB2 := hB2.trans (hb.mono hB2.size)
      clear hb hcz hmk
      have hsl : (str t).extract i (i + 1) = str (t.drop i) := by rw [← HTL.out]; exact str_extract_to t i
      go_wp2_with (fail)
      refine (CodecNumbers_of 0 0 (t.drop i) _ (by omega) (by omega)).mono ?_
      rintro e w3 ⟨rfl, hb⟩
      replace hB2 := hB2.trans (hb.mono hB2.size)
      go_wp2
      go_roundw
      case rel => exact ⟨i + 1, t, by go_num, rfl, HTL.out, by omega, hB2⟩
      case measure => simp [intOf]; omega
    · go_wp2_with (fail)
      refine (CodecNumbers_of 1 1 [49, 50, 51, 52, 53, 54, 55, 56, 57] _ (by omega) (by omega)).mono ?_
      rintro e w1 ⟨rfl, hb⟩
      go_wp2
      go_ret
      exact ⟨rfl, hbel.trans (hb.mono hbel.size)⟩
end Go.Proofs.YtifdibkpaeocfaaGreatDoor

namespace Go.Proofs.YtifdibkpaeocfaaGreatDoor
open Go.RowKit

def someL : List (List PairL) := [[], [([], [])], [([97], [])], [([97, 98], [120]), ([97, 98, 99], []), ([98], [121])], [([], [0]), ([0], []), ([0, 0], [122, 122])], [([98], []), ([97], [])], [([97], []), ([97], [])], [([], []), ([], [])], [([97], []), ([98], []), ([], [])]]
theorem PairsAt.blk {w : World} {b : Nat} {t : TypeId} {l : List PairL} (cap : Nat) (h : Blk w b (cellsP l) t) : PairsAt w (.slice (some ⟨b, 0, none⟩) l.length cap) l := by
  have key : ∀ (l : List PairL) i p, l[i]? = some p → (cellsP l)[i * 2]? = some (strV p.1) ∧ (cellsP l)[i * 2 + 1]? = some (strV p.2) := by
    intro l
    induction l with
    | nil => intro i p hp; simp at hp
    | cons q l ih =>
      intro i p hp
      cases i with
      | zero =>
        simp at hp
        subst hp
        exact ⟨rfl, rfl⟩
      | succ i =>
        have := ih i p (by simpa using hp)
        have e1 : (i + 1) * 2 = i * 2 + 1 + 1 := by omega
        rw [e1]
        exact this
  refine ⟨_, cap, rfl, fun i p hp => ⟨b, 0, rfl, ?_, ?_⟩⟩
  · rw [h.cell, Nat.zero_add]; exact (key l i p hp).1
  · rw [h.cell, Nat.zero_add]; exact (key l i p hp).2
theorem allocs_heap : ∀ (os : List Obj) (w : World), (os.foldl World.alloc w).heap = w.heap ++ os.toArray
  | [], w => by simp
  | o :: os, w => by
    rw [List.foldl_cons, allocs_heap os]
    show w.heap.push o ++ _ = _
    simp
theorem allocs_get (os : List Obj) (w : World) (j : Nat) : (os.foldl World.alloc w).heap[w.heap.size + j]? = os[j]? := by
  rw [allocs_heap, Array.getElem?_append_right (by omega)]
  simp
theorem blk_cell {w : World} {g : Nat} {cs : Array Value} {t : TypeId} (h : w.heap[g]? = some (.cells cs t (0, 0))) (j : Nat) : w.cell? ⟨g, j, none⟩ = cs[j]? := by
  simp [World.cell?, h]
set_option maxHeartbeats 1000000 in
set_option maxRecDepth 100000 in
theorem some_any (w : World) : Calls Tryz.prog 28 #[] w fun e w' => ∃ G, e = .returned (.slice (some ⟨G, 0, none⟩) 9 9) ∧ Below w.heap.size w w' ∧ ∀ j l, someL[j]? = some l → ∃ v, w'.cell? ⟨G, j, none⟩ = some v ∧ PairsAt w' v l := by
  go_enter Tryz.func28, Tryz.ntmps28
  go_wp2
  go_ret
  refine ⟨_, rfl, ?_, ?_⟩
  · repeat (first | exact Below.refl _ _ | refine Below.alloc ?_ (by simp; try omega) _)
  · intro j l hl
    have hj : j < 9 := by
      obtain ⟨h, _⟩ := List.getElem?_eq_some_iff.1 hl
      exact h
    have hW := allocs_get [.cells #[.string ⟨#[]⟩, .string ⟨#[]⟩] 33, .cells #[.string ⟨#[97]⟩, .string ⟨#[]⟩] 33, .cells #[.string ⟨#[97, 98]⟩, .string ⟨#[120]⟩, .string ⟨#[97, 98, 99]⟩, .string ⟨#[]⟩, .string ⟨#[98]⟩, .string ⟨#[121]⟩] 33, .cells #[.string ⟨#[]⟩, .string ⟨#[0]⟩, .string ⟨#[0]⟩, .string ⟨#[]⟩, .string ⟨#[0, 0]⟩, .string ⟨#[122, 122]⟩] 33, .cells #[.string ⟨#[98]⟩, .string ⟨#[]⟩, .string ⟨#[97]⟩, .string ⟨#[]⟩] 33, .cells #[.string ⟨#[97]⟩, .string ⟨#[]⟩, .string ⟨#[97]⟩, .string ⟨#[]⟩] 33, .cells #[.string ⟨#[]⟩, .string ⟨#[]⟩, .string ⟨#[]⟩, .string ⟨#[]⟩] 33, .cells #[.string ⟨#[97]⟩, .string ⟨#[]⟩, .string ⟨#[98]⟩, .string ⟨#[]⟩, .string ⟨#[]⟩, .string ⟨#[]⟩] 33, .cells #[.slice none 0 0, .slice (some ⟨w.heap.size, 0, none⟩) 1 1, .slice (some ⟨w.heap.size + 1, 0, none⟩) 1 1, .slice (some ⟨w.heap.size + 1 + 1, 0, none⟩) 3 3, .slice (some ⟨w.heap.size + 1 + 1 + 1, 0, none⟩) 3 3, .slice (some ⟨w.heap.size + 1 + 1 + 1 + 1, 0, none⟩) 2 2, .slice (some ⟨w.heap.size + 1 + 1 + 1 + 1 + 1, 0, none⟩) 2 2, .slice (some ⟨w.heap.size + 1 + 1 + 1 + 1 + 1 + 1, 0, none⟩) 2 2, .slice (some ⟨w.heap.size + 1 + 1 + 1 + 1 + 1 + 1 + 1, 0, none⟩) 3 3] 29] w
    simp only [List.foldl_cons, List.foldl_nil] at hW
    generalize hWW : (World.alloc _ _) = W at hW ⊢
    clear hWW
    have hG : W.heap[w.heap.size + 8]? = some (Obj.cells #[.slice none 0 0, .slice (some ⟨w.heap.size, 0, none⟩) 1 1, .slice (some ⟨w.heap.size + 1, 0, none⟩) 1 1, .slice (some ⟨w.heap.size + 1 + 1, 0, none⟩) 3 3, .slice (some ⟨w.heap.size + 1 + 1 + 1, 0, none⟩) 3 3, .slice (some ⟨w.heap.size + 1 + 1 + 1 + 1, 0, none⟩) 2 2, .slice (some ⟨w.heap.size + 1 + 1 + 1 + 1 + 1, 0, none⟩) 2 2, .slice (some ⟨w.heap.size + 1 + 1 + 1 + 1 + 1 + 1, 0, none⟩) 2 2, .slice (some ⟨w.heap.size + 1 + 1 + 1 + 1 + 1 + 1 + 1, 0, none⟩) 3 3] 29) := hW 8
    match j, hj with
    | 0, _ =>
      obtain rfl : [] = l := by simpa [someL] using hl
      exact ⟨.slice none 0 0, (blk_cell hG 0).trans rfl, none, 0, rfl, fun i p hp => by simp at hp⟩
    | 1, _ =>
      obtain rfl : [([], [])] = l := by simpa [someL] using hl
      exact ⟨.slice (some ⟨w.heap.size, 0, none⟩) 1 1, (blk_cell hG 1).trans rfl, PairsAt.blk (l := [([], [])]) (t := 33) 1 (hW 0)⟩
    | 2, _ =>
      obtain rfl : [([97], [])] = l := by simpa [someL] using hl
      exact ⟨.slice (some ⟨w.heap.size + 1, 0, none⟩) 1 1, (blk_cell hG 2).trans rfl, PairsAt.blk (l := [([97], [])]) (t := 33) 1 (hW 1)⟩
    | 3, _ =>
      obtain rfl : [([97, 98], [120]), ([97, 98, 99], []), ([98], [121])] = l := by simpa [someL] using hl
      exact ⟨.slice (some ⟨w.heap.size + 1 + 1, 0, none⟩) 3 3, (blk_cell hG 3).trans rfl, PairsAt.blk (l := [([97, 98], [120]), ([97, 98, 99], []), ([98], [121])]) (t := 33) 3 (hW 2)⟩
    | 4, _ =>
      obtain rfl : [([], [0]), ([0], []), ([0, 0], [122, 122])] = l := by simpa [someL] using hl
      exact ⟨.slice (some ⟨w.heap.size + 1 + 1 + 1, 0, none⟩) 3 3, (blk_cell hG 4).trans rfl, PairsAt.blk (l := [([], [0]), ([0], []), ([0, 0], [122, 122])]) (t := 33) 3 (hW 3)⟩
    | 5, _ =>
      obtain rfl : [([98], []), ([97], [])] = l := by simpa [someL] using hl
      exact ⟨.slice (some ⟨w.heap.size + 1 + 1 + 1 + 1, 0, none⟩) 2 2, (blk_cell hG 5).trans rfl, PairsAt.blk (l := [([98], []), ([97], [])]) (t := 33) 2 (hW 4)⟩
    | 6, _ =>
      obtain rfl : [([97], []), ([97], [])] = l := by simpa [someL] using hl
      exact ⟨.slice (some ⟨w.heap.size + 1 + 1 + 1 + 1 + 1, 0, none⟩) 2 2, (blk_cell hG 6).trans rfl, PairsAt.blk (l := [([97], []), ([97], [])]) (t := 33) 2 (hW 5)⟩
    | 7, _ =>
      obtain rfl : [([], []), ([], [])] = l := by simpa [someL] using hl
      exact ⟨.slice (some ⟨w.heap.size + 1 + 1 + 1 + 1 + 1 + 1, 0, none⟩) 2 2, (blk_cell hG 7).trans rfl, PairsAt.blk (l := [([], []), ([], [])]) (t := 33) 2 (hW 6)⟩
    | 8, _ =>
      obtain rfl : [([97], []), ([98], []), ([], [])] = l := by simpa [someL] using hl
      exact ⟨.slice (some ⟨w.heap.size + 1 + 1 + 1 + 1 + 1 + 1 + 1, 0, none⟩) 3 3, (blk_cell hG 8).trans rfl, PairsAt.blk (l := [([97], []), ([98], []), ([], [])]) (t := 33) 3 (hW 7)⟩
end Go.Proofs.YtifdibkpaeocfaaGreatDoor
