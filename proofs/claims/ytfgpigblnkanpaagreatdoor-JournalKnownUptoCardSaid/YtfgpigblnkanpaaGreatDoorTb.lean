/- The walks of full and struck: closed helpers of the statement JournalKnown. -/
import Derived.Test.YtfgpigblnkanpaaGreatDoorTa
import Derived.Test.YtfgpigblnkanpaaGreatDoorHL
namespace Go.Proofs.YtfgpigblnkanpaaGreatDoor
open Go.RowKit Go.Maps Go.Shelf
set_option linter.unusedVariables false
set_option linter.unusedSimpArgs false

/-! ### full: a disk of twelve bytes -/
def fu1 : Dk := (jstart (dnew 12) [106]).d
def fu2 : Dk := (jappend fu1 [106] 0 false [97, 98]).d
def fu3 : Dk := (jappend fu2 [106] 1 false [97, 98, 99]).d
def fu4 : Dk := (jappend fu3 [106] 1 false []).d
set_option maxRecDepth 100000 in
theorem fu1_eq : jstart (dnew 12) [106] = ⟨fu1, [], 0⟩ := by kernel_rfl
set_option maxRecDepth 100000 in
theorem fu2_eq : jappend fu1 [106] 0 false [97, 98] = ⟨fu2, 0, false, 1⟩ := by kernel_rfl
set_option maxRecDepth 100000 in
theorem fu3_eq : jappend fu2 [106] 1 false [97, 98, 99] = ⟨fu3, 19, false, 1⟩ := by kernel_rfl
set_option maxRecDepth 100000 in
theorem fu4_eq : jappend fu3 [106] 1 false [] = ⟨fu4, 0, false, 2⟩ := by kernel_rfl
theorem Plain_lit (no : Nat) (w : World) (h : 1 ≤ no) (h2 : no ≤ 25) (hg : ErrorLaid w) (m : Int) (hm : m = no) : Calls Tryz.prog 28 #[errV no, .int .i64 m] w fun e w' => e = .returned (.bool true) ∧ Below w.heap.size w w' := by
  subst hm
  exact Plain_same no w h2 hg
set_option maxHeartbeats 4000000 in
set_option maxRecDepth 100000 in
theorem full_any (w : World) (hg : ErrorLaid w) : Calls Tryz.prog 100 #[] w fun e w' => e = .returned (.bool true) ∧ Below w.heap.size w w' := by
  have HG := Lib.hid hg
  clear hg
  go_enter Tryz.func100, Tryz.ntmps100
  go_wp2_with (fail)
  refine (New_m w w (Below.refl _ _) [] (fun k hk => by cases hk) 12).mono ?_
  rintro e w1 ⟨g, A1, rfl, h1, hb1⟩
  have HO := Lib.hid (told_any h1 (nm := [106]) (by simp) (by omega) fu1_eq (by simp))
  clear h1 hb1
  go_wp2_with (fail)
  refine HO.out.mono ?_
  rintro e w2 ⟨jb, v, A2, rfl, h2, -, ht2, -, -⟩
  obtain ⟨va, vc, rfl, -⟩ := ht2.shape
  have hA := jAppend_any h2 [97, 98] (by omega) (by simp) (by simp)
  simp only [List.length_nil, fu2_eq] at hA
  have HA := Lib.hid hA
  clear h2 ht2 hA HO
  simp only [List.length_map, List.length_nil]
  go_wp2_with (fail)
  refine HA.out.mono ?_
  rintro e w3 ⟨rfl, ⟨A3, h3⟩, -⟩
  rw [errV_none]
  have hA := jAppend_any h3 [97, 98, 99] (by omega) (by simp) (by simp)
  simp only [fu3_eq] at hA
  have HA := Lib.hid hA
  clear h3 hA
  go_wp2_with (fail)
  refine HA.out.mono ?_
  rintro e w4 ⟨rfl, ⟨A4, h4⟩, -⟩
  have hA := jAppend_any h4 [] (by omega) (by simp) (by simp)
  simp only [fu4_eq] at hA
  have HA := Lib.hid hA
  clear h4 hA
  go_wp2_with (fail)
  refine HA.out.mono ?_
  rintro e w5 ⟨rfl, ⟨A5, h5⟩, -⟩
  rw [errV_none]
  have HP := Lib.hid (Plain_lit 19 w5 (by omega) (by omega) (HG.out.below h5.m.bel) 19 rfl)
  have H5 := Lib.hid h5
  clear h5 HA
  go_wp2_with (fail)
  refine HP.out.mono ?_
  rintro e w6 ⟨rfl, hb6⟩
  have h6 := H5.out.below hb6
  have HL := Lib.hid (jLen_any h6)
  have HB := Lib.hid h6.m.bel
  clear h6 hb6 H5 HP
  go_wp2_with (fail)
  refine HL.out.mono ?_
  rintro e w7 ⟨rfl, rfl⟩
  go_wp2
  go_ret
  exact ⟨rfl, HB.out⟩
section
variable {w0 w : World} {K A : List Nat} {jb g : Nat} {d : Dk} {N : Nat} {nm : Nm} {n : Nat} {c : Bool}
theorem Jl.arm (h : Jl w0 w K A jb g d N nm n c) (m : Int) (kv : Value) (keep : List Int) (hi : IntsAt w kv keep) (hl : keep.length ≤ 1048576) (hw : wf64 keep) (hm : m ≤ 9223372036854775807) :
    Calls Tryz.prog 26 #[.pointer (some ⟨g, 0, none⟩), .int .i64 m, .agg #[kv]] w fun e w' => e = .returned (.tuple #[]) ∧ JlTo w0 K w jb g (darm d m keep) N nm n c w' :=
  (Arm_hd h.m.hd m kv keep hi (by omega) hw hm hi.uses).mono fun e w' ⟨he, hp⟩ => ⟨he, h.op (h.m.to hp)⟩
theorem Jl.revive (h : Jl w0 w K A jb g d N nm n c) :
    Calls Tryz.prog 19 #[.pointer (some ⟨g, 0, none⟩)] w fun e w' => e = .returned (.tuple #[]) ∧ JlTo w0 K w jb g (drevive d) N nm n c w' :=
  (Revive_m h.m rfl).mono fun e w' ⟨he, hp⟩ => ⟨he, h.op hp⟩
end
theorem IntsAt.lit (w : World) (l : List Int) (hl : l.length ≤ 1000) : IntsAt (w.alloc (.cells (l.map (Value.int .i64)).toArray 3)) (.slice (some ⟨w.heap.size, 0, none⟩) l.length l.length) l :=
  IntsAt.of_row (by
    have h := World.ownsRow_lit (base := 0) (e := 3) (size := 1) w (l.map (Value.int .i64)).toArray l.length (Nat.zero_le _) (by unfold maxLen; omega) (by simp)
    simpa using h)
theorem TextsAt.lit (w : World) (l : List Nm) (hl : l.length ≤ 1000) : TextsAt (w.alloc (.cells (l.map strV).toArray 9)) (.slice (some ⟨w.heap.size, 0, none⟩) l.length l.length) l :=
  RowAt.of_row (by
    have h := World.ownsRow_lit (base := 0) (e := 9) (size := 1) w (l.map strV).toArray l.length (Nat.zero_le _) (by unfold maxLen; omega) (by simp)
    simpa using h)
/-! ### struck: an Append is struck, with each fate -/
def st1 : Dk := (jstart (dnew 100) [106]).d
def st2 : Dk := (jappend st1 [106] 0 false [97, 98]).d
def st3 (f : Int) : Dk := (jappend (darm st2 2 [f]) [106] 1 false [99]).d
def st4 (f : Int) : Dk := (jstart (drevive (st3 f)) [106]).d
def stL (f : Int) : List Nm := if f = 1 then [[97, 98], [99]] else [[97, 98]]
set_option maxRecDepth 100000 in
theorem st1_eq : jstart (dnew 100) [106] = ⟨st1, [], 0⟩ := by kernel_rfl
set_option maxRecDepth 100000 in
theorem st2_eq : jappend st1 [106] 0 false [97, 98] = ⟨st2, 0, false, 1⟩ := by kernel_rfl
set_option maxRecDepth 100000 in
theorem st3_eq {f : Int} (h : f = 0 ∨ f = 1 ∨ f = 2 ∨ f = 3) : jappend (darm st2 2 [f]) [106] 1 false [99] = ⟨st3 f, 20, true, 1⟩ := by
  rcases h with rfl | rfl | rfl | rfl <;> kernel_rfl
set_option maxRecDepth 100000 in
theorem st4_eq {f : Int} (h : f = 0 ∨ f = 1 ∨ f = 2 ∨ f = 3) : jstart (drevive (st3 f)) [106] = ⟨st4 f, stL f, 0⟩ := by
  rcases h with rfl | rfl | rfl | rfl <;> kernel_rfl
def sz1 : Dk := (ddo (dnew 100) (.create [106])).1
def sz2 : Dk := (ddo sz1 (.write [106] [0, 0, 0, 0, 0, 0])).1
def sz3 : Dk := (jstart sz2 [106]).d
set_option maxRecDepth 100000 in
theorem sz1_eq : ddo (dnew 100) (.create [106]) = (sz1, 0) := by kernel_rfl
set_option maxRecDepth 100000 in
theorem sz2_eq : ddo sz1 (.write [106] [0, 0, 0, 0, 0, 0]) = (sz2, 0) := by kernel_rfl
set_option maxRecDepth 100000 in
theorem sz3_eq : jstart sz2 [106] = ⟨sz3, [], 0⟩ := by kernel_rfl
set_option maxRecDepth 100000 in
theorem sz3_read : dread sz3 [106] = ([], 0) := by kernel_rfl
set_option maxHeartbeats 4000000 in
set_option maxRecDepth 100000 in
theorem struck_any (w : World) (hg : ErrorLaid w) : Calls Tryz.prog 101 #[] w fun e w' => e = .returned (.bool true) ∧ Below w.heap.size w w' := by
  have HG := Lib.hid hg
  clear hg
  go_enter Tryz.func101, Tryz.ntmps101
  go_wp2_with (fail)
  go_loopw [1] (fun iv wr => ∃ k : Nat, iv = .int .i64 (k : Nat) ∧ k ≤ 4 ∧ Hid (Below w.heap.size w wr)) (fun iv _ => 5 - (intOf iv).toNat)
  case atStart => exact ⟨0, rfl, by omega, Below.refl _ _⟩
  case round =>
    obtain ⟨k, rfl, hk, hbel⟩ := hrel
    by_cases hlt : k < 4
    · have hkf : (k : Int) = 0 ∨ (k : Int) = 1 ∨ (k : Int) = 2 ∨ (k : Int) = 3 := by omega
      have ik : (k : Int) < 4 := by omega
      have HKF := Lib.hid hkf
      clear hkf
      go_wp2_with (fail)
      refine (New_m wr wr (Below.refl _ _) [] (fun k hk => by cases hk) 100).mono ?_
      rintro e w1 ⟨g, A1, rfl, h1, hb1⟩
      have HO := Lib.hid (told_any h1 (nm := [106]) (by simp) (by omega) st1_eq (by simp))
      clear h1 hb1
      go_wp2_with (fail)
      refine HO.out.mono ?_
      rintro e w2 ⟨jb, v, A2, rfl, h2, -, ht2, -, -⟩
      obtain ⟨va, vc, rfl, -⟩ := ht2.shape
      have hA := jAppend_any h2 [97, 98] (by omega) (by simp) (by simp)
      simp only [List.length_nil, st2_eq] at hA
      have HA := Lib.hid hA
      clear h2 ht2 hA HO
      simp only [List.length_map, List.length_nil]
      go_wp2_with (fail)
      refine HA.out.mono ?_
      rintro e w3 ⟨rfl, ⟨A3, h3⟩, -⟩
      rw [errV_none]
      have hb3 : Below w3.heap.size w3 (w3.alloc (.cells #[.int .i64 (k : Int)] 3)) := (Below.refl _ w3).alloc (Nat.le_refl _) _
      have hR := (h3.below hb3).arm 2 (.slice (some ⟨w3.heap.size, 0, none⟩) 1 1) [(k : Int)] (IntsAt.lit w3 [(k : Int)] (by simp)) (by simp) (by intro x hx; simp at hx; subst hx; omega) (by omega)
      have HR := Lib.hid hR
      clear h3 hb3 hR HA
      go_wp2_with (fail)
      refine HR.out.mono ?_
      rintro e w4 ⟨rfl, ⟨A4, h4⟩, -⟩
      have hA := jAppend_any h4 [99] (by omega) (by simp) (by simp)
      simp only [st3_eq HKF.out] at hA
      have HA := Lib.hid hA
      clear h4 hA HR
      go_wp2_with (fail)
      refine HA.out.mono ?_
      rintro e w5 ⟨rfl, ⟨A5, h5⟩, -⟩
      have HV := Lib.hid h5.revive
      clear h5 HA
      go_wp2_with (fail)
      refine HV.out.mono ?_
      rintro e w6 ⟨rfl, ⟨A6, h6⟩, -⟩
      have hA := jAppend_any h6 [100] (by omega) (by simp) (by simp)
      rw [show jappend (drevive (st3 k)) [106] 1 true [100] = ⟨drevive (st3 k), 23, true, 1⟩ from by unfold jappend; rw [if_pos rfl]] at hA
      have HA := Lib.hid hA
      clear h6 hA HV
      go_wp2_with (fail)
      refine HA.out.mono ?_
      rintro e w7 ⟨rfl, ⟨A7, h7⟩, -⟩
      have HO := Lib.hid (told_any h7.m (nm := [106]) (by simp) (by omega) (st4_eq HKF.out) (by unfold stL; split <;> simp))
      have HJ := Lib.hid h7.j
      clear h7 HA
      go_wp2_with (fail)
      refine HO.out.mono ?_
      rintro e w8 ⟨jb2, v8, A8, rfl, h8, hk8, ht8, -, -⟩
      have hj8 := HJ.out.same (hk8 jb (by simp))
      have H8 := Lib.hid h8
      have HT8 := Lib.hid ht8
      have HJ8 := Lib.hid hj8
      clear h8 hk8 ht8 hj8 HO HJ
      by_cases hk1 : k = 1
      · skip
        have hkb : ((k : Int) == 1) = true := by simp [hk1]
        have hLL : stL (k : Int) = [[97, 98], [99]] := by unfold stL; rw [if_pos (by omega)]
        have hb8 : Below w8.heap.size w8 ((w8.alloc (.cells #[.string { data := #[97, 98] }] 9)).alloc (.cells #[.string { data := #[97, 98] }, .string { data := #[99] }] 9)) := ((Below.refl _ w8).alloc (Nat.le_refl _) _).alloc (by simp) _
        have hx : TextsAt ((w8.alloc (.cells #[.string { data := #[97, 98] }] 9)).alloc (.cells #[.string { data := #[97, 98] }, .string { data := #[99] }] 9)) (.slice (some ⟨(w8.alloc (.cells #[.string { data := #[97, 98] }] 9)).heap.size, 0, none⟩) 2 2) [[97, 98], [99]] := TextsAt.lit (w8.alloc (.cells #[.string { data := #[97, 98] }] 9)) [[97, 98], [99]] (by simp)
        rw [World.size_alloc] at hx
        have ht8 := HT8.out
        have h9 := H8.out.below hb8
        have ht9 := RowAt.below ht8 hb8
        have hj9 := HJ8.out.below hb8 HJ8.out.lt
        rw [hLL] at ht9
        obtain ⟨a8, c8, rfl, -⟩ := ht9.shape
        simp only [List.length_map, List.length_cons, List.length_nil] at ht9
        have HX := Lib.hid hx
        have H9 := Lib.hid h9
        have HT9 := Lib.hid ht9
        have HJ9 := Lib.hid hj9
        have HHB : Hid (Below w.heap.size w w8) := hbel.out.trans ((H8.out.m.bel).mono hbel.out.size)
        have HHB8 := Lib.hid hb8
        clear hx h9 ht9 hj9 ht8 hb8 hbel H8 HT8 HJ8 hLL
        simp only [List.length_map, List.length_cons, List.length_nil]
        go_upto_region 16 with (fail)
        have HHB9 := Lib.hid (HHB.out.trans (HHB8.out.mono HHB.out.size))
        have HP1 := Lib.hid (Plain_lit 20 _ (by omega) (by omega) (HG.out.below HHB9.out) 20 rfl)
        go_wp2_with (fail)
        refine HP1.out.mono ?_
        rintro e w10 ⟨rfl, hb10⟩
        have HB10 := Lib.hid hb10
        have HHB10 := Lib.hid (HHB9.out.trans (hb10.mono HHB9.out.size))
        have HP2 := Lib.hid (Plain_lit 23 w10 (by omega) (by omega) (HG.out.below HHB10.out) 23 rfl)
        clear hb10 HP1
        go_wp2_with (fail)
        refine HP2.out.mono ?_
        rintro e w11 ⟨rfl, hb11⟩
        have hb := HB10.out.trans (hb11.mono HB10.out.size)
        have HHB11 := Lib.hid (HHB10.out.trans (hb11.mono HHB10.out.size))
        have hj := HJ9.out.below hb HJ9.out.lt
        have c2 := hj.cell 2
        simp only [List.getElem?_cons_zero, List.getElem?_cons_succ] at c2
        have c2' : w11.cell? ⟨jb, 2, none⟩ = some (.int .i64 1) := c2
        have HL := Lib.hid (jLen_at c2')
        have hST := (SameTexts_sh w11 _ _ _ _ (TextsAt.sh (RowAt.below HT9.out hb)) (TextsAt.sh (RowAt.below HX.out hb)) (by simp) (by simp)).mono fun e w' ⟨he, q, hq⟩ => (⟨by rw [he]; simp, hq ▸ below_drewN (Below.refl _ _) q⟩ : e = Ending.returned (.bool true) ∧ Below w11.heap.size w11 w')
        have HST := Lib.hid hST
        clear hb hb11 hj c2 c2' hST HP2 HJ9 HT9 HX HB10
        go_wp2_with (fail)
        refine HL.out.mono ?_
        rintro e w12 ⟨rfl, rfl⟩
        clear HL
        go_wp2_with (fail)
        refine HST.out.mono ?_
        rintro e w12 ⟨rfl, hb12⟩
        have HHB12 := Lib.hid (HHB11.out.trans (hb12.mono HHB11.out.size))
        clear hb12 HST
        go_wp2
        go_roundw
        case rel => exact ⟨k + 1, by go_num, by omega, HHB12.out⟩
        case measure => simp [intOf]; omega
      · skip
        have hkb : ((k : Int) == 1) = false := by simp; omega
        have hLL : stL (k : Int) = [[97, 98]] := by unfold stL; rw [if_neg (by omega)]
        have hb8 : Below w8.heap.size w8 (w8.alloc (.cells #[.string { data := #[97, 98] }] 9)) := (Below.refl _ w8).alloc (Nat.le_refl _) _
        have hx : TextsAt (w8.alloc (.cells #[.string { data := #[97, 98] }] 9)) (.slice (some ⟨w8.heap.size, 0, none⟩) 1 1) [[97, 98]] := TextsAt.lit w8 [[97, 98]] (by simp)
        have ht8 := HT8.out
        have h9 := H8.out.below hb8
        have ht9 := RowAt.below ht8 hb8
        have hj9 := HJ8.out.below hb8 HJ8.out.lt
        rw [hLL] at ht9
        obtain ⟨a8, c8, rfl, -⟩ := ht9.shape
        simp only [List.length_map, List.length_cons, List.length_nil] at ht9
        have HX := Lib.hid hx
        have H9 := Lib.hid h9
        have HT9 := Lib.hid ht9
        have HJ9 := Lib.hid hj9
        have HHB : Hid (Below w.heap.size w w8) := hbel.out.trans ((H8.out.m.bel).mono hbel.out.size)
        have HHB8 := Lib.hid hb8
        clear hx h9 ht9 hj9 ht8 hb8 hbel H8 HT8 HJ8 hLL
        simp only [List.length_map, List.length_cons, List.length_nil]
        go_upto_region 16 with (fail)
        have HHB9 := Lib.hid (HHB.out.trans (HHB8.out.mono HHB.out.size))
        have HP1 := Lib.hid (Plain_lit 20 _ (by omega) (by omega) (HG.out.below HHB9.out) 20 rfl)
        go_wp2_with (fail)
        refine HP1.out.mono ?_
        rintro e w10 ⟨rfl, hb10⟩
        have HB10 := Lib.hid hb10
        have HHB10 := Lib.hid (HHB9.out.trans (hb10.mono HHB9.out.size))
        have HP2 := Lib.hid (Plain_lit 23 w10 (by omega) (by omega) (HG.out.below HHB10.out) 23 rfl)
        clear hb10 HP1
        go_wp2_with (fail)
        refine HP2.out.mono ?_
        rintro e w11 ⟨rfl, hb11⟩
        have hb := HB10.out.trans (hb11.mono HB10.out.size)
        have HHB11 := Lib.hid (HHB10.out.trans (hb11.mono HHB10.out.size))
        have hj := HJ9.out.below hb HJ9.out.lt
        have c2 := hj.cell 2
        simp only [List.getElem?_cons_zero, List.getElem?_cons_succ] at c2
        have c2' : w11.cell? ⟨jb, 2, none⟩ = some (.int .i64 1) := c2
        have HL := Lib.hid (jLen_at c2')
        have hST := (SameTexts_sh w11 _ _ _ _ (TextsAt.sh (RowAt.below HT9.out hb)) (TextsAt.sh (RowAt.below HX.out hb)) (by simp) (by simp)).mono fun e w' ⟨he, q, hq⟩ => (⟨by rw [he]; simp, hq ▸ below_drewN (Below.refl _ _) q⟩ : e = Ending.returned (.bool true) ∧ Below w11.heap.size w11 w')
        have HST := Lib.hid hST
        clear hb hb11 hj c2 c2' hST HP2 HJ9 HT9 HX HB10
        go_wp2_with (fail)
        refine HL.out.mono ?_
        rintro e w12 ⟨rfl, rfl⟩
        clear HL
        go_wp2_with (fail)
        refine HST.out.mono ?_
        rintro e w12 ⟨rfl, hb12⟩
        have HHB12 := Lib.hid (HHB11.out.trans (hb12.mono HHB11.out.size))
        clear hb12 HST
        go_wp2
        go_roundw
        case rel => exact ⟨k + 1, by go_num, by omega, HHB12.out⟩
        case measure => simp [intOf]; omega
    · have ik : ¬ (k : Int) < 4 := by omega
      go_wp2_with (fail)
      refine (New_m wr wr (Below.refl _ _) [] (fun k hk => by cases hk) 100).mono ?_
      rintro e w1 ⟨g, A1, rfl, h1, hb1⟩
      have HC := Lib.hid (Create_m h1 [106] sz1_eq (by omega) (by simp))
      clear h1 hb1
      go_wp2_with (fail)
      refine HC.out.mono ?_
      rintro e w2 ⟨rfl, ⟨A2, h2⟩, -⟩
      rw [errV_none]
      have HD := Lib.hid (Write_m h2 [106] [0, 0, 0, 0, 0, 0] sz2_eq (by omega) (by simp) (by simp))
      clear h2 HC
      go_wp2_with (fail)
      refine HD.out.mono ?_
      rintro e w3 ⟨rfl, ⟨A3, h3⟩, -⟩
      rw [errV_none]
      have HO := Lib.hid (told_any h3 (nm := [106]) (by simp) (by omega) sz3_eq (by simp))
      clear h3 HD
      go_wp2_with (fail)
      refine HO.out.mono ?_
      rintro e w4 ⟨jb, v, A4, rfl, h4, -, ht4, -, -⟩
      obtain ⟨va, vc, rfl, -⟩ := ht4.shape
      have hR := Read_m h4.m [106] sz3_read (by simp)
      rw [errV_none] at hR
      have HR := Lib.hid hR
      have HHB : Hid (Below w.heap.size w w4) := hbel.out.trans (h4.m.bel.mono hbel.out.size)
      clear h4 ht4 hR HO hbel
      simp only [List.length_map, List.length_nil]
      go_wp2_with (fail)
      refine HR.out.mono ?_
      rintro e w5 ⟨rfl, rfl⟩
      have hq : ((str []).toList == ([] : List UInt8)) = true := by kernel_rfl
      clear HR
      go_wp2
      go_ret
      exact ⟨rfl, HHB.out⟩
end Go.Proofs.YtfgpigblnkanpaaGreatDoor
