/- The walk of shown: a closed helper of the statement JournalKnown. -/
import Derived.Test.YtfgpigblnkanpaaGreatDoorTb
import Derived.Test.YtfgpigblnkanpaaGreatDoorHK
namespace Go.Proofs.YtfgpigblnkanpaaGreatDoor
open Go.RowKit Go.Maps Go.Shelf
set_option linter.unusedVariables false
set_option linter.unusedSimpArgs false

def shF : Nm := [3, 237, 61, 137, 153, 97, 98]
def sh3 : Dk := (jappend st2 [106] 1 false []).d
def sh4 : Dk := (jstart sh3 [106]).d
def sh5 : Dk := (jreset sh4 [106] 2 false).d
def sh6 : Dk := (jstart sh5 [106]).d
def sh7 : Dk := (jstart sh6 (timesL 97 199)).d
set_option maxRecDepth 100000 in
theorem shF_eq : jframe [97, 98] = shF := by kernel_rfl
set_option maxRecDepth 100000 in
theorem sh2_read : dread st2 [106] = (shF, 0) := by kernel_rfl
set_option maxRecDepth 100000 in
theorem sh3_eq : jappend st2 [106] 1 false [] = ⟨sh3, 0, false, 2⟩ := by kernel_rfl
set_option maxRecDepth 100000 in
theorem sh4_eq : jstart sh3 [106] = ⟨sh4, [[97, 98], []], 0⟩ := by kernel_rfl
set_option maxRecDepth 100000 in
theorem sh4_used : dused sh4 = 12 := by kernel_rfl
set_option maxRecDepth 100000 in
theorem sh5_eq : jreset sh4 [106] 2 false = ⟨sh5, 0, false, 0⟩ := by kernel_rfl
set_option maxRecDepth 100000 in
theorem sh6_eq : jstart sh5 [106] = ⟨sh6, [], 0⟩ := by kernel_rfl
set_option maxRecDepth 100000 in
theorem sh7_eq : jstart sh6 (timesL 97 199) = ⟨sh7, [], 0⟩ := by kernel_rfl
set_option maxHeartbeats 8000000 in
set_option maxRecDepth 100000 in
theorem shown23_any (w : World) (hg : ErrorLaid w) : Calls Tryz.prog 40 #[] w fun e w' => e = .returned (.bool true) ∧ Below w.heap.size w w' := by
  have HG := Lib.hid hg
  clear hg
  go_enter Tryz.func40, Tryz.ntmps40
  go_wp2_with (fail)
  refine (New_m w w (Below.refl _ _) [] (fun k hk => by cases hk) 100).mono ?_
  rintro e w1 ⟨g, A1, rfl, h1, hb1⟩
  have HO := Lib.hid (told_any h1 (nm := [106]) (by simp) (by omega) st1_eq (by simp))
  clear h1 hb1
  go_wp2_with (fail)
  refine HO.out.mono ?_
  rintro e w2 ⟨jb, v, A2, rfl, h2, -, ht2, -, -⟩
  obtain ⟨va, vc, rfl, -⟩ := ht2.shape
  simp only [List.length_map, List.length_nil]
  have hL := jLen_any h2
  have hA := jAppend_any h2 [97, 98] (by omega) (by simp) (by simp)
  simp only [List.length_nil, st2_eq] at hA
  have HL := Lib.hid hL
  have HA := Lib.hid hA
  clear h2 ht2 hA hL HO
  go_wp2_with (fail)
  refine HL.out.mono ?_
  rintro e w3 ⟨rfl, rfl⟩
  clear HL
  go_wp2_with (fail)
  refine HA.out.mono ?_
  rintro e w3 ⟨rfl, ⟨A3, h3⟩, -⟩
  rw [errV_none]
  have hR := Read_m h3.m [106] sh2_read (by simp)
  rw [errV_none] at hR
  have hA := jAppend_any h3 [] (by omega) (by simp) (by simp)
  simp only [sh3_eq] at hA
  have HR := Lib.hid hR
  have HA := Lib.hid hA
  clear h3 hA hR
  go_wp2_with (fail)
  refine HR.out.mono ?_
  rintro e w4 ⟨rfl, rfl⟩
  clear HR
  go_wp2_with (fail)
  refine HA.out.mono ?_
  rintro e w4 ⟨rfl, ⟨A4, h4⟩, -⟩
  rw [errV_none]
  have HO := Lib.hid (told_any h4.m (nm := [106]) (by simp) (by omega) sh4_eq (by simp))
  clear h4 HA
  go_wp2_with (fail)
  refine HO.out.mono ?_
  rintro e w5 ⟨jb2, v5, A5, rfl, h5, -, ht5, -, -⟩
  obtain ⟨va5, vc5, rfl, -⟩ := ht5.shape
  simp only [List.length_map, List.length_cons, List.length_nil] at *
  have hsz : (str shF).size = 7 := by kernel_rfl
  have hix : ∀ w', (Instr.index 9 (strV shF) (.int .i64 0)).run Tryz.prog w' = .ok (.int .u8 3) w' := fun w' => by kernel_rfl
  have hqq : ((str shF).toList == (str shF).toList) = true := by simp
  have hF := lframe_any [97, 98] w5 (by simp)
  rw [shF_eq] at hF
  have HF := Lib.hid hF
  have H5 := Lib.hid h5
  have HT5 := Lib.hid ht5
  clear h5 ht5 hF HO
  go_wp2_with (fail)
  refine HF.out.mono ?_
  rintro e w6 ⟨rfl, hb6⟩
  have hb67 : Below w6.heap.size w6 (w6.alloc (.cells #[.string { data := #[97, 98] }, .string { data := #[] }] 9)) := (Below.refl _ w6).alloc (Nat.le_refl _) _
  have hb57 := hb6.trans (hb67.mono hb6.size)
  have hx : TextsAt (w6.alloc (.cells #[.string { data := #[97, 98] }, .string { data := #[] }] 9)) (.slice (some ⟨w6.heap.size, 0, none⟩) 2 2) [[97, 98], []] := TextsAt.lit w6 [[97, 98], []] (by simp)
  have hST := (SameTexts_sh _ _ _ _ _ (TextsAt.sh (RowAt.below HT5.out hb57)) (TextsAt.sh hx) (by simp) (by simp)).mono fun e w' ⟨he, q, hq⟩ => (⟨by rw [he]; simp, hq ▸ below_drewN (Below.refl _ _) q⟩ : e = Ending.returned (.bool true) ∧ Below (w6.alloc (.cells #[.string { data := #[97, 98] }, .string { data := #[] }] 9)).heap.size (w6.alloc (.cells #[.string { data := #[97, 98] }, .string { data := #[] }] 9)) w')
  have HST := Lib.hid hST
  have HB57 := Lib.hid hb57
  clear hb6 hb67 hb57 hx hST HF HT5
  go_wp2_with (fail)
  refine HST.out.mono ?_
  rintro e w8 ⟨rfl, hb8⟩
  have hb58 := HB57.out.trans (hb8.mono HB57.out.size)
  have h8 := H5.out.below hb58
  have HL := Lib.hid (jLen_any h8)
  have HU := Lib.hid (Used_m h8.m sh4_used (by omega))
  have H8 := Lib.hid h8
  clear hb8 hb58 h8 HST HB57 H5
  go_wp2_with (fail)
  refine HL.out.mono ?_
  rintro e w9 ⟨rfl, rfl⟩
  clear HL
  go_wp2_with (fail)
  refine HU.out.mono ?_
  rintro e w9 ⟨rfl, hb9⟩
  have h9 := H8.out.below hb9
  have hS := jReset_any h9 (by omega)
  simp only [List.length_cons, List.length_nil, sh5_eq, Nat.zero_add, Nat.reduceAdd] at hS
  have HS := Lib.hid hS
  clear hb9 h9 hS H8 HU
  go_wp2_with (fail)
  refine HS.out.mono ?_
  rintro e w10 ⟨rfl, ⟨A10, h10⟩, -⟩
  rw [errV_none]
  have HO := Lib.hid (told_any h10.m (nm := [106]) (by simp) (by omega) sh6_eq (by simp))
  have HJ := Lib.hid h10.j
  clear h10 HS
  go_wp2_with (fail)
  refine HO.out.mono ?_
  rintro e w11 ⟨jb3, v11, A11, rfl, h11, hk11, ht11, -, -⟩
  obtain ⟨va11, vc11, rfl, -⟩ := ht11.shape
  simp only [List.length_map, List.length_nil] at *
  have hj11 := HJ.out.same (hk11 jb2 (by simp))
  have H11 := Lib.hid h11
  have HJ11 := Lib.hid hj11
  have HOB := Lib.hid (jOpen_bad (w := w11) (g := g) (nm := []) (Or.inl (by simp)) (by simp))
  clear h11 hk11 ht11 hj11 HO HJ
  go_wp2_with (fail)
  refine HOB.out.mono ?_
  rintro e w12 ⟨rfl, rfl⟩
  clear HOB
  have HT := Lib.hid (times_any w11 97 200 (by omega) (by omega))
  go_wp2_with (fail)
  refine HT.out.mono ?_
  rintro e w12 ⟨rfl, hb12⟩
  have HOB := Lib.hid (jOpen_bad (w := w12) (g := g) (nm := timesL 97 200) (Or.inr (by unfold timesL; rw [List.length_replicate]; omega)) (by unfold timesL; rw [List.length_replicate]; omega))
  have HB12 := Lib.hid hb12
  clear hb12 HT
  go_wp2_with (fail)
  refine HOB.out.mono ?_
  rintro e w13 ⟨rfl, rfl⟩
  clear HOB
  have HT := Lib.hid (times_any w12 97 199 (by omega) (by omega))
  go_wp2_with (fail)
  refine HT.out.mono ?_
  rintro e w13 ⟨rfl, hb13⟩
  have hb := HB12.out.trans (hb13.mono HB12.out.size)
  have h13 := H11.out.below hb
  have hj13 := HJ11.out.below hb HJ11.out.lt
  have HO := Lib.hid (told_any h13.m (nm := timesL 97 199) (by unfold timesL; rw [List.length_replicate]; omega) (by omega) sh7_eq (by simp))
  have HJ13 := Lib.hid hj13
  clear hb13 hb h13 hj13 H11 HJ11 HB12 HT
  go_wp2_with (fail)
  refine HO.out.mono ?_
  rintro e w14 ⟨jb4, v14, A14, rfl, h14, hk14, ht14, -, -⟩
  obtain ⟨va14, vc14, rfl, -⟩ := ht14.shape
  simp only [List.length_map, List.length_nil] at *
  have hj14 := HJ13.out.same (hk14 jb2 (by simp))
  have c2 := hj14.cell 2
  simp only [List.getElem?_cons_zero, List.getElem?_cons_succ] at c2
  have c2' : w14.cell? ⟨jb2, 2, none⟩ = some (.int .i64 0) := c2
  have HL := Lib.hid (jLen_at c2')
  have HB14 := Lib.hid h14.m.bel
  have HP1 := Lib.hid (Plain_lit 21 w14 (by omega) (by omega) (HG.out.below h14.m.bel) 21 rfl)
  clear h14 hk14 ht14 hj14 c2 c2' HO HJ13
  go_wp2_with (fail)
  refine HL.out.mono ?_
  rintro e w15 ⟨rfl, rfl⟩
  clear HL
  go_wp2_with (fail)
  refine HP1.out.mono ?_
  rintro e w15 ⟨rfl, hb15⟩
  have HB15 := Lib.hid (HB14.out.trans (hb15.mono HB14.out.size))
  have HP2 := Lib.hid (Plain_lit 21 w15 (by omega) (by omega) (HG.out.below HB15.out) 21 rfl)
  clear hb15 HP1 HB14
  go_wp2_with (fail)
  refine HP2.out.mono ?_
  rintro e w16 ⟨rfl, hb16⟩
  have HB16 := Lib.hid (HB15.out.trans (hb16.mono HB15.out.size))
  have HFu := Lib.hid (full_any w16 (HG.out.below HB16.out))
  clear hb16 HP2 HB15
  go_wp2_with (fail)
  refine HFu.out.mono ?_
  rintro e w17 ⟨rfl, hb17⟩
  have HB17 := Lib.hid (HB16.out.trans (hb17.mono HB16.out.size))
  have HSt := Lib.hid (struck_any w17 (HG.out.below HB17.out))
  clear hb17 HFu HB16
  go_wp2_with (fail)
  refine HSt.out.mono ?_
  rintro e w18 ⟨rfl, hb18⟩
  have HB18 := Lib.hid (HB17.out.trans (hb18.mono HB17.out.size))
  clear hb18 HSt HB17
  go_wp2
  go_ret
  exact ⟨rfl, HB18.out⟩
end Go.Proofs.YtfgpigblnkanpaaGreatDoor
