/- The walk of the statement CodecBack. -/
import Derived.Test.YtifdibkpaeocfaaGreatDoorWorks
import Derived.Test.YtifdibkpaeocfaaGreatDoorShort
import Derived.Test.YtifdibkpaeocfaaGreatDoorStr
import Derived.Test.YtifdibkpaeocfaaGreatDoorPlain
namespace Go.Proofs.YtifdibkpaeocfaaGreatDoor
open Go.RowKit

theorem zag_lo' {n : Nat} (h : n < 18446744073709551616) : -9223372036854775808 ≤ zag n ∧ zag n ≤ 9223372036854775807 := by
  unfold zag; split <;> omega

set_option maxHeartbeats 2000000 in
set_option maxRecDepth 100000 in
theorem CodecBack_any (n : Nat) (m : Int) (hd tl : List UInt8) (w : World) (hn : n < 18446744073709551616) (h0 : -9223372036854775808 ≤ m) (h1 : m ≤ 9223372036854775807) (hg : ErrorLaid w) : Calls Tryz.prog 24 #[.int .u64 n, .int .i64 m, .string (str hd), .string (str tl)] w fun e w' => e = .returned (.bool true) ∧ Below w.heap.size w w' := by
  have hhl : (hd.take 65536).length ≤ 65536 := by simp; omega
  have htl : (tl.take 65536).length ≤ 65536 := by simp; omega
  have hzm := zig_lt h0 h1
  have la1 := uintL_pos n
  have la2 := uintL_len hn
  have lb2 := uintL_len hzm
  obtain ⟨H, hH⟩ : ∃ H, hd.take 65536 = H := ⟨_, rfl⟩
  obtain ⟨T, hT⟩ : ∃ T, tl.take 65536 = T := ⟨_, rfl⟩
  rw [hH] at hhl
  rw [hT] at htl
  have hra : readU 0 0 ((H ++ (uintL n ++ T)).drop H.length) = (n, (uintL n).length, 0) := by
    rw [List.drop_left, readU_uintL hn]
  have hrb : readU 0 0 ((H ++ (uintL (zig m) ++ T)).drop H.length) = (zig m, (uintL (zig m)).length, 0) := by
    rw [List.drop_left, readU_uintL hzm]
  have hcut := fun i hi => readU_cut (n := n) (i := i) hn hi
  have hmark := uintL_mark n
  have d1 := add_run H (uintL n) (by omega)
  have d2 := add_run (H ++ uintL n) T (by simp; omega)
  have d3 := add_run H (uintL (zig m)) (by omega)
  have d4 := add_run (H ++ uintL (zig m)) T (by simp; omega)
  have hRA := fun w => ReadUint_in (str (H ++ (uintL n ++ T))) H.length w (by rw [str_size]; simp) (by rw [str_size]; simp; omega)
  have hRB := fun w => ReadUint_in (str (H ++ (uintL (zig m) ++ T))) H.length w (by rw [str_size]; simp) (by rw [str_size]; simp; omega)
  rw [str_data, hra] at hRA
  rw [str_data, hrb] at hRB
  have hRI := fun w => ReadInt_of _ _ _ _ _ w hzm hRB
  rw [zag_zig] at hRI
  simp only [show errV 0 = .nilIface from rfl] at hRA hRI
  have hUa := fun w => Uint_of (n : Int) n w rfl (by show _ < _; exact hn)
  generalize uintL n = a at *
  have hIa := fun w => Int_any m w (by show _ ≤ _; exact h0) (by show _ ≤ _; exact h1)
  generalize uintL (zig m) = b at *
  have ea := str_size a
  have eb := str_size b
  have eH := str_size H
  have HRA := Lib.hid hRA
  have HRI := Lib.hid hRI
  have HI := Lib.hid hIa
  have HU := Lib.hid hUa
  have HC := Lib.hid hcut
  have HM := Lib.hid hmark
  have HH := Lib.hid hH
  have HT := Lib.hid hT
  clear hRA hRI hRB hIa hUa hcut hmark hra hrb hH hT
  have hle : ∀ u, ((str u).toList == (str u).toList) = true := fun u => by simp
  go_enter Tryz.func24, Tryz.ntmps24
  go_wp2_with (fail)
  refine (Head_any hd 65536 _ (by omega)).mono ?_
  rintro e w1 ⟨rfl, hB⟩
  rw [HH.out]
  go_wp2_with (fail)
  refine (Head_any tl 65536 _ (by omega)).mono ?_
  rintro e w2 ⟨rfl, hb⟩
  rw [HT.out]
  replace hB := hB.trans (hb.mono hB.size)
  clear hb
  go_wp2_with (fail)
  refine (HU.out _).mono ?_
  rintro e w3 ⟨rfl, hb⟩
  replace hB := hB.trans (hb.mono hB.size)
  clear hb
  go_wp2_with (fail)
  refine (HI.out _).mono ?_
  rintro e w4 ⟨rfl, hb⟩
  replace hB := hB.trans (hb.mono hB.size)
  clear hb
  go_wp2_with (fail)
  refine (HRA.out _).mono ?_
  rintro e w5 ⟨rfl, rfl⟩
  go_wp2_with (fail)
  refine (HRI.out _).mono ?_
  rintro e w5 ⟨rfl, rfl⟩
  go_wp2
  go_loopw [17] (fun i wr => ∃ j : Nat, i = .int .i64 j ∧ j ≤ a.length ∧ Below w.heap.size w wr) (fun i _ => a.length - (intOf i).toNat)
  case atStart => exact ⟨0, rfl, by omega, hB⟩
  case round =>
    obtain ⟨j, rfl, hj, hbel⟩ := hrel
    by_cases hlt : j < a.length
    · have y1 := slice_pre a j (by omega)
      have hrs := fun w => ReadUint_str (a.take j) w (by simp; omega)
      rw [HC.out j hlt] at hrs
      have HRS := Lib.hid hrs
      obtain ⟨c, hc⟩ : ∃ c, a[j]? = some c := ⟨_, List.getElem?_eq_getElem hlt⟩
      have hmk := HM.out j c hc
      have hce : (str a)[j]'(by rw [ea]; exact hlt) = c := by
        obtain ⟨_, e⟩ := List.getElem?_eq_some_iff.1 hc
        exact e
      have hidx := fun w' => run_index_at (P := Tryz.prog) w' 9 (str a) (j : Int) j Tryz.underlying9 (by rw [ea]; exact hlt) rfl
      rw [hce] at hidx
      have HX := Lib.hid hc
      clear hrs hce hc
      by_cases hl : j + 1 < a.length
      · have hc128 : (128 : Int) ≤ (c.toNat : Int) := by have := hmk.2 hl; omega
        have hj1 : (j : Int) + 1 < a.length := by omega
        have hd1 : decide ((128 : Int) ≤ (c.toNat : Int)) = true := by simpa using hc128
        have hd2 : decide ((j : Int) + 1 < a.length) = true := by simpa using hj1
        have HMK := Lib.hid hmk
        clear hmk
        go_wp2_with (fail)
        refine (HRS.out _).mono ?_
        rintro e w6 ⟨rfl, rfl⟩
        go_wp2_with (fail)
        refine (Plain_same 2 _ (by omega) (hg.below hbel)).mono ?_
        rintro e w7 ⟨rfl, hb⟩
        go_wp2
        go_roundw
        case rel => exact ⟨j + 1, by go_num, by omega, hbel.trans (hb.mono hbel.size)⟩
        case measure => simp [intOf]; omega
      · have hc128 : (c.toNat : Int) < 128 := by
          have : ¬ 128 ≤ c.toNat := fun h => hl (hmk.1 h)
          omega
        have hj1 : (a.length : Int) ≤ (j : Int) + 1 := by omega
        have hd1 : decide ((128 : Int) ≤ (c.toNat : Int)) = false := by simp; omega
        have hd2 : decide ((j : Int) + 1 < a.length) = false := by simp; omega
        have HMK := Lib.hid hmk
        clear hmk
        go_wp2_with (fail)
        refine (HRS.out _).mono ?_
        rintro e w6 ⟨rfl, rfl⟩
        go_wp2_with (fail)
        refine (Plain_same 2 _ (by omega) (hg.below hbel)).mono ?_
        rintro e w7 ⟨rfl, hb⟩
        go_wp2
        go_roundw
        case rel => exact ⟨j + 1, by go_num, by omega, hbel.trans (hb.mono hbel.size)⟩
        case measure => simp [intOf]; omega
    · go_wp2_with (fail)
      refine (works_any _).mono ?_
      rintro e w6 ⟨rfl, hb⟩
      go_wp2
      go_ret
      exact ⟨rfl, hbel.trans (hb.mono hbel.size)⟩
end Go.Proofs.YtifdibkpaeocfaaGreatDoor
