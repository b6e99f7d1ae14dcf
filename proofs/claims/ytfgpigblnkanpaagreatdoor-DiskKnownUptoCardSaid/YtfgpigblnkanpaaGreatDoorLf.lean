/- Printed by gen_lf.py. The walks of struck and of the closed law DiskKnown. -/
import Derived.Test.YtfgpigblnkanpaaGreatDoorLe
namespace Go.Proofs.YtfgpigblnkanpaaGreatDoor
open Go.RowKit Go.Maps Go.Shelf
set_option linter.unusedVariables false
def sk1 : Dk := darm (dnew (99)) 2 [1]
def sk2 : Dk := (ddo sk1 (.create [97])).1
set_option maxRecDepth 100000 in theorem sk2_eq : ddo sk1 (.create [97]) = (sk2, 0) := ddo_eq rfl (by kernel_rfl)
def sk3 : Dk := (ddo sk2 (.create [97])).1
set_option maxRecDepth 100000 in theorem sk3_eq : ddo sk2 (.create [97]) = (sk3, 13) := ddo_eq rfl (by kernel_rfl)
def sk4 : Dk := (ddo sk3 (.write [97] [120])).1
set_option maxRecDepth 100000 in theorem sk4_eq : ddo sk3 (.write [97] [120]) = (sk4, 20) := ddo_eq rfl (by kernel_rfl)
def sk5 : Dk := (ddo sk4 (.flush)).1
set_option maxRecDepth 100000 in theorem sk5_eq : ddo sk4 (.flush) = (sk5, 20) := ddo_eq rfl (by kernel_rfl)
def sk6 : Dk := (ddo sk5 (.create [])).1
set_option maxRecDepth 100000 in theorem sk6_eq : ddo sk5 (.create []) = (sk6, 20) := ddo_eq rfl (by kernel_rfl)
def sk7 : Dk := drevive sk6
def sk8 : Dk := (ddo sk7 (.write [97] [120, 121])).1
set_option maxRecDepth 100000 in theorem sk8_eq : ddo sk7 (.write [97] [120, 121]) = (sk8, 0) := ddo_eq rfl (by kernel_rfl)
def sk9 : Dk := darm sk8 1 []
def sk10 : Dk := (ddo sk9 (.sync [98])).1
set_option maxRecDepth 100000 in theorem sk10_eq : ddo sk9 (.sync [98]) = (sk10, 18) := ddo_eq rfl (by kernel_rfl)
def sk11 : Dk := (ddo sk10 (.sync [97])).1
set_option maxRecDepth 100000 in theorem sk11_eq : ddo sk10 (.sync [97]) = (sk11, 20) := ddo_eq rfl (by kernel_rfl)
def sk12 : Dk := darm sk11 1 [0, 1]
def sk13 : Dk := drevive sk12
def sk14 : Dk := (ddo sk13 (.rename [97] [98])).1
set_option maxRecDepth 100000 in theorem sk14_eq : ddo sk13 (.rename [97] [98]) = (sk14, 20) := ddo_eq rfl (by kernel_rfl)
def sk15 : Dk := drevive sk14
def sk16 : Dk := darm sk15 1 []
def sk17 : Dk := darm sk16 0 []
def sk18 : Dk := (ddo sk17 (.remove [97])).1
set_option maxRecDepth 100000 in theorem sk18_eq : ddo sk17 (.remove [97]) = (sk18, 0) := ddo_eq rfl (by kernel_rfl)
set_option maxHeartbeats 8000000 in
set_option maxRecDepth 100000 in
theorem struck_any (w : World) (hg : ErrorLaid w) : Calls Tryz.prog 39 #[] w fun e w' => e = .returned (.bool true) ∧ Below w.heap.size w w' := by
  go_enter Tryz.func39, Tryz.ntmps39
  go_wp2_with (fail)
  refine (New_m w _ (Below.refl _ _) [] (fun k hk => by cases hk) (99)).mono ?_
  rintro e w1 ⟨g1, A1, rfl, h1, -⟩
  have H1 := Lib.hid h1; clear h1
  go_wp2_with (fail)
  refine (ArmLit H1.out 2 [1] (d' := sk1) rfl (by decide) (by intro x hx; simp at hx; omega) (by decide)).mono ?_
  rintro e w2 ⟨rfl, ⟨A2, h2⟩, -⟩
  have H2 := Lib.hid h2; clear h2
  go_wp2_with (fail)
  refine (Create_m H2.out [97] sk2_eq (by omega) (by decide)).mono ?_
  rintro e w3 ⟨rfl, ⟨A3, h3⟩, -⟩
  have H3 := Lib.hid h3; clear h3
  rw [errV_none]
  go_wp2_with (fail)
  refine (Create_m H3.out [97] sk3_eq (by omega) (by decide)).mono ?_
  rintro e w4 ⟨rfl, ⟨A4, h4⟩, -⟩
  have H4 := Lib.hid h4; clear h4
  go_wp2_with (fail)
  refine (Plain_same 13 _ (by omega) (hg.below H4.out.bel)).mono ?_
  rintro e w5 ⟨rfl, hb5⟩
  have h5 := H4.out.below hb5; have H5 := Lib.hid h5; clear h5 hb5
  go_wp2_with (fail)
  refine (Write_m H5.out [97] [120] sk4_eq (by omega) (by simp [manyL]) (by simp [manyL])).mono ?_
  rintro e w6 ⟨rfl, ⟨A6, h6⟩, -⟩
  have H6 := Lib.hid h6; clear h6
  go_wp2_with (fail)
  refine (Plain_same 20 _ (by omega) (hg.below H6.out.bel)).mono ?_
  rintro e w7 ⟨rfl, hb7⟩
  have h7 := H6.out.below hb7; have H7 := Lib.hid h7; clear h7 hb7
  go_wp2_with (fail)
  refine (Flush_m H7.out  sk5_eq (by omega)).mono ?_
  rintro e w8 ⟨rfl, ⟨A8, h8⟩, -⟩
  have H8 := Lib.hid h8; clear h8
  go_wp2_with (fail)
  refine (Plain_same 20 _ (by omega) (hg.below H8.out.bel)).mono ?_
  rintro e w9 ⟨rfl, hb9⟩
  have h9 := H8.out.below hb9; have H9 := Lib.hid h9; clear h9 hb9
  go_wp2_with (fail)
  refine (Create_m H9.out [] sk6_eq (by omega) (by decide)).mono ?_
  rintro e w10 ⟨rfl, ⟨A10, h10⟩, -⟩
  have H10 := Lib.hid h10; clear h10
  go_wp2_with (fail)
  refine (Plain_same 20 _ (by omega) (hg.below H10.out.bel)).mono ?_
  rintro e w11 ⟨rfl, hb11⟩
  have h11 := H10.out.below hb11; have H11 := Lib.hid h11; clear h11 hb11
  go_wp2_with (fail)
  refine (Revive_m H11.out (d' := sk7) rfl).mono ?_
  rintro e w12 ⟨rfl, ⟨A12, h12⟩, -⟩
  have H12 := Lib.hid h12; clear h12
  go_wp2_with (fail)
  refine (Read_m H12.out [97] (s := []) (c := 0) (by kernel_rfl) (by decide)).mono ?_
  rintro e w13 ⟨rfl, rfl⟩
  rw [errV_none]
  go_wp2_with (fail)
  refine (Write_m H12.out [97] [120, 121] sk8_eq (by omega) (by simp [manyL]) (by simp [manyL])).mono ?_
  rintro e w14 ⟨rfl, ⟨A14, h14⟩, -⟩
  have H14 := Lib.hid h14; clear h14
  rw [errV_none]
  go_wp2_with (fail)
  refine (Arm_m H14.out 1 _ [] (d' := sk9) rfl (IntsAt.nil _ none 0) (by decide) wf64_nil (by decide) (fun j hj => by simp [Value.ownBlock] at hj)).mono ?_
  rintro e w15 ⟨rfl, ⟨A15, h15⟩, -⟩
  have H15 := Lib.hid h15; clear h15
  go_wp2_with (fail)
  refine (Sync_m H15.out [98] sk10_eq (by omega) (by decide)).mono ?_
  rintro e w16 ⟨rfl, ⟨A16, h16⟩, -⟩
  have H16 := Lib.hid h16; clear h16
  go_wp2_with (fail)
  refine (Plain_same 18 _ (by omega) (hg.below H16.out.bel)).mono ?_
  rintro e w17 ⟨rfl, hb17⟩
  have h17 := H16.out.below hb17; have H17 := Lib.hid h17; clear h17 hb17
  go_wp2_with (fail)
  refine (Sync_m H17.out [97] sk11_eq (by omega) (by decide)).mono ?_
  rintro e w18 ⟨rfl, ⟨A18, h18⟩, -⟩
  have H18 := Lib.hid h18; clear h18
  go_wp2_with (fail)
  refine (Plain_same 20 _ (by omega) (hg.below H18.out.bel)).mono ?_
  rintro e w19 ⟨rfl, hb19⟩
  have h19 := H18.out.below hb19; have H19 := Lib.hid h19; clear h19 hb19
  go_wp2_with (fail)
  refine (ArmLit H19.out 1 [0, 1] (d' := sk12) rfl (by decide) (by intro x hx; simp at hx; omega) (by decide)).mono ?_
  rintro e w20 ⟨rfl, ⟨A20, h20⟩, -⟩
  have H20 := Lib.hid h20; clear h20
  go_wp2_with (fail)
  refine (Revive_m H20.out (d' := sk13) rfl).mono ?_
  rintro e w21 ⟨rfl, ⟨A21, h21⟩, -⟩
  have H21 := Lib.hid h21; clear h21
  go_wp2_with (fail)
  refine (Read_m H21.out [97] (s := []) (c := 0) (by kernel_rfl) (by decide)).mono ?_
  rintro e w22 ⟨rfl, rfl⟩
  rw [errV_none]
  go_wp2_with (fail)
  refine (Rename_m H21.out [97] [98] sk14_eq (by omega) (by simp [manyL]) (by simp [manyL])).mono ?_
  rintro e w23 ⟨rfl, ⟨A23, h23⟩, -⟩
  have H23 := Lib.hid h23; clear h23
  go_wp2_with (fail)
  refine (Plain_same 20 _ (by omega) (hg.below H23.out.bel)).mono ?_
  rintro e w24 ⟨rfl, hb24⟩
  have h24 := H23.out.below hb24; have H24 := Lib.hid h24; clear h24 hb24
  go_wp2_with (fail)
  refine (Revive_m H24.out (d' := sk15) rfl).mono ?_
  rintro e w25 ⟨rfl, ⟨A25, h25⟩, -⟩
  have H25 := Lib.hid h25; clear h25
  go_wp2_with (fail)
  refine (List_m H25.out [[97]] rfl (by kernel_rfl) (by omega)).mono ?_
  rintro e wl ⟨lv, rfl, hrow, hl, -⟩
  obtain ⟨la, lc, rfl, hx⟩ := hrow.shape
  obtain ⟨lb, lo, rfl, hcell, -⟩ := hx 0 _ rfl
  simp only [Nat.add_zero] at hcell
  have HL := Lib.hid hl; clear hl hrow hx
  go_wp2_with (fail)
  refine (Arm_m HL.out 1 _ [] (d' := sk16) rfl (IntsAt.nil _ none 0) (by decide) wf64_nil (by decide) (fun j hj => by simp [Value.ownBlock] at hj)).mono ?_
  rintro e w26 ⟨rfl, ⟨A26, h26⟩, hk26⟩
  replace hcell := (World.cell?_of_block (a := ⟨lb, lo, none⟩) (hk26 lb (by simp [Value.ownBlock]))).trans hcell
  have H26 := Lib.hid h26; clear h26 hk26
  go_wp2_with (fail)
  refine (Arm_m H26.out 0 _ [] (d' := sk17) rfl (IntsAt.nil _ none 0) (by decide) wf64_nil (by decide) (fun j hj => by simp [Value.ownBlock] at hj)).mono ?_
  rintro e w27 ⟨rfl, ⟨A27, h27⟩, hk27⟩
  replace hcell := (World.cell?_of_block (a := ⟨lb, lo, none⟩) (hk27 lb (by simp [Value.ownBlock]))).trans hcell
  have H27 := Lib.hid h27; clear h27 hk27
  have t1 : ((str []).toList == []) = true := by rw [toList_str]; rfl
  have t2 : ((str [97]).toList == [97]) = true := by rw [toList_str]; rfl
  go_wp2_with (fail)
  refine (Remove_m H27.out [97] sk18_eq (by omega) (by decide)).mono ?_
  rintro e w28 ⟨rfl, ⟨A28, h28⟩, -⟩
  have H28 := Lib.hid h28; clear h28
  rw [errV_none]
  go_wp2_with (fail)
  refine (Used_m H28.out (k := 0) (by kernel_rfl) (by omega)).mono ?_
  rintro e w29 ⟨rfl, hb29⟩
  have h29 := H28.out.below hb29; have H29 := Lib.hid h29; clear h29 hb29
  go_wp2
  go_ret
  exact ⟨rfl, H29.out.bel⟩
def dk1 : Dk := (ddo (dnew (9)) (.create [97])).1
set_option maxRecDepth 100000 in theorem dk1_eq : ddo (dnew (9)) (.create [97]) = (dk1, 0) := ddo_eq rfl (by kernel_rfl)
def dk2 : Dk := (ddo dk1 (.create [97])).1
set_option maxRecDepth 100000 in theorem dk2_eq : ddo dk1 (.create [97]) = (dk2, 13) := ddo_eq rfl (by kernel_rfl)
def dk3 : Dk := (ddo dk2 (.create [])).1
set_option maxRecDepth 100000 in theorem dk3_eq : ddo dk2 (.create []) = (dk3, 21) := ddo_eq rfl (by kernel_rfl)
def dk4 : Dk := (ddo dk3 (.write [97] [120, 121, 122])).1
set_option maxRecDepth 100000 in theorem dk4_eq : ddo dk3 (.write [97] [120, 121, 122]) = (dk4, 0) := ddo_eq rfl (by kernel_rfl)
def dk5 : Dk := (ddo dk4 (.write [97] [49, 50, 51, 52, 53, 54, 55])).1
set_option maxRecDepth 100000 in theorem dk5_eq : ddo dk4 (.write [97] [49, 50, 51, 52, 53, 54, 55]) = (dk5, 19) := ddo_eq rfl (by kernel_rfl)
def dk6 : Dk := (ddo dk5 (.write [98] (manyL 99))).1
set_option maxRecDepth 100000 in theorem dk6_eq : ddo dk5 (.write [98] (manyL 99)) = (dk6, 18) := ddo_eq rfl (by kernel_rfl)
def dk7 : Dk := (ddo dk6 (.write [97] [49, 50, 51, 52, 53, 54])).1
set_option maxRecDepth 100000 in theorem dk7_eq : ddo dk6 (.write [97] [49, 50, 51, 52, 53, 54]) = (dk7, 0) := ddo_eq rfl (by kernel_rfl)
def dk8 : Dk := (ddo dk7 (.create (manyL 200))).1
set_option maxRecDepth 100000 in theorem dk8_eq : ddo dk7 (.create (manyL 200)) = (dk8, 0) := ddo_eq rfl (by kernel_rfl)
def dk9 : Dk := (ddo dk8 (.create (manyL 201))).1
set_option maxRecDepth 100000 in theorem dk9_eq : ddo dk8 (.create (manyL 201)) = (dk9, 21) := ddo_eq rfl (by kernel_rfl)
def dk10 : Dk := (ddo dk9 (.rename [98] [])).1
set_option maxRecDepth 100000 in theorem dk10_eq : ddo dk9 (.rename [98] []) = (dk10, 18) := ddo_eq rfl (by kernel_rfl)
def dk11 : Dk := (ddo dk10 (.rename [97] [])).1
set_option maxRecDepth 100000 in theorem dk11_eq : ddo dk10 (.rename [97] []) = (dk11, 21) := ddo_eq rfl (by kernel_rfl)
def dk12 : Dk := (ddo dk11 (.rename [97] (manyL 201))).1
set_option maxRecDepth 100000 in theorem dk12_eq : ddo dk11 (.rename [97] (manyL 201)) = (dk12, 21) := ddo_eq rfl (by kernel_rfl)
def dk13 : Dk := (ddo dk12 (.rename [97] [97])).1
set_option maxRecDepth 100000 in theorem dk13_eq : ddo dk12 (.rename [97] [97]) = (dk13, 0) := ddo_eq rfl (by kernel_rfl)
def dk14 : Dk := (ddo dk13 (.remove [98])).1
set_option maxRecDepth 100000 in theorem dk14_eq : ddo dk13 (.remove [98]) = (dk14, 18) := ddo_eq rfl (by kernel_rfl)
def dk15 : Dk := (ddo dk14 (.sync [98])).1
set_option maxRecDepth 100000 in theorem dk15_eq : ddo dk14 (.sync [98]) = (dk15, 18) := ddo_eq rfl (by kernel_rfl)
def dk16 : Dk := (ddo dk15 (.write [97] [])).1
set_option maxRecDepth 100000 in theorem dk16_eq : ddo dk15 (.write [97] []) = (dk16, 0) := ddo_eq rfl (by kernel_rfl)
def dk17 : Dk := (ddo (dnew (-1)) (.create [97])).1
set_option maxRecDepth 100000 in theorem dk17_eq : ddo (dnew (-1)) (.create [97]) = (dk17, 0) := ddo_eq rfl (by kernel_rfl)
def dk18 : Dk := (ddo dk17 (.write [97] [120])).1
set_option maxRecDepth 100000 in theorem dk18_eq : ddo dk17 (.write [97] [120]) = (dk18, 19) := ddo_eq rfl (by kernel_rfl)
def dk19 : Dk := (ddo dk18 (.write [97] [])).1
set_option maxRecDepth 100000 in theorem dk19_eq : ddo dk18 (.write [97] []) = (dk19, 0) := ddo_eq rfl (by kernel_rfl)
def dk20 : Dk := (ddo fr2 (.write [97] [122])).1
set_option maxRecDepth 100000 in theorem dk20_eq : ddo fr2 (.write [97] [122]) = (dk20, 0) := ddo_eq rfl (by kernel_rfl)
set_option maxHeartbeats 8000000 in
set_option maxRecDepth 100000 in
theorem DiskKnown_any (w : World) (hg : ErrorLaid w) : Calls Tryz.prog 7 #[] w fun e w' => e = .returned (.bool true) ∧ Below w.heap.size w w' := by
  go_enter Tryz.func7, Tryz.ntmps7
  go_wp2_with (fail)
  refine (New_m w _ (Below.refl _ _) [] (fun k hk => by cases hk) (9)).mono ?_
  rintro e w1 ⟨g1, A1, rfl, h1, -⟩
  have H1 := Lib.hid h1; clear h1
  go_wp2_with (fail)
  refine (Create_m H1.out [97] dk1_eq (by omega) (by decide)).mono ?_
  rintro e w2 ⟨rfl, ⟨A2, h2⟩, -⟩
  have H2 := Lib.hid h2; clear h2
  rw [errV_none]
  go_wp2_with (fail)
  refine (Create_m H2.out [97] dk2_eq (by omega) (by decide)).mono ?_
  rintro e w3 ⟨rfl, ⟨A3, h3⟩, -⟩
  have H3 := Lib.hid h3; clear h3
  go_wp2_with (fail)
  refine (Plain_same 13 _ (by omega) (hg.below H3.out.bel)).mono ?_
  rintro e w4 ⟨rfl, hb4⟩
  have h4 := H3.out.below hb4; have H4 := Lib.hid h4; clear h4 hb4
  go_wp2_with (fail)
  refine (Create_m H4.out [] dk3_eq (by omega) (by decide)).mono ?_
  rintro e w5 ⟨rfl, ⟨A5, h5⟩, -⟩
  have H5 := Lib.hid h5; clear h5
  go_wp2_with (fail)
  refine (Plain_same 21 _ (by omega) (hg.below H5.out.bel)).mono ?_
  rintro e w6 ⟨rfl, hb6⟩
  have h6 := H5.out.below hb6; have H6 := Lib.hid h6; clear h6 hb6
  go_wp2_with (fail)
  refine (Write_m H6.out [97] [120, 121, 122] dk4_eq (by omega) (by simp [manyL]) (by simp [manyL])).mono ?_
  rintro e w7 ⟨rfl, ⟨A7, h7⟩, -⟩
  have H7 := Lib.hid h7; clear h7
  rw [errV_none]
  go_wp2_with (fail)
  refine (Write_m H7.out [97] [49, 50, 51, 52, 53, 54, 55] dk5_eq (by omega) (by simp [manyL]) (by simp [manyL])).mono ?_
  rintro e w8 ⟨rfl, ⟨A8, h8⟩, -⟩
  have H8 := Lib.hid h8; clear h8
  go_wp2_with (fail)
  refine (Plain_same 19 _ (by omega) (hg.below H8.out.bel)).mono ?_
  rintro e w9 ⟨rfl, hb9⟩
  have h9 := H8.out.below hb9; have H9 := Lib.hid h9; clear h9 hb9
  go_wp2_with (fail)
  refine (many_any _ 99 (by omega) (by omega)).mono ?_
  rintro e w10 ⟨rfl, hb10⟩
  have h10 := H9.out.below hb10; have H10 := Lib.hid h10; clear h10 hb10
  go_wp2_with (fail)
  refine (Write_m H10.out [98] (manyL 99) dk6_eq (by omega) (by simp [manyL]) (by simp [manyL])).mono ?_
  rintro e w11 ⟨rfl, ⟨A11, h11⟩, -⟩
  have H11 := Lib.hid h11; clear h11
  go_wp2_with (fail)
  refine (Plain_same 18 _ (by omega) (hg.below H11.out.bel)).mono ?_
  rintro e w12 ⟨rfl, hb12⟩
  have h12 := H11.out.below hb12; have H12 := Lib.hid h12; clear h12 hb12
  go_wp2_with (fail)
  refine (Write_m H12.out [97] [49, 50, 51, 52, 53, 54] dk7_eq (by omega) (by simp [manyL]) (by simp [manyL])).mono ?_
  rintro e w13 ⟨rfl, ⟨A13, h13⟩, -⟩
  have H13 := Lib.hid h13; clear h13
  rw [errV_none]
  go_wp2_with (fail)
  refine (Used_m H13.out (k := 9) (by kernel_rfl) (by omega)).mono ?_
  rintro e w14 ⟨rfl, hb14⟩
  have h14 := H13.out.below hb14; have H14 := Lib.hid h14; clear h14 hb14
  go_wp2_with (fail)
  refine (many_any _ 200 (by omega) (by omega)).mono ?_
  rintro e w15 ⟨rfl, hb15⟩
  have h15 := H14.out.below hb15; have H15 := Lib.hid h15; clear h15 hb15
  go_wp2_with (fail)
  refine (Create_m H15.out (manyL 200) dk8_eq (by omega) (by decide)).mono ?_
  rintro e w16 ⟨rfl, ⟨A16, h16⟩, -⟩
  have H16 := Lib.hid h16; clear h16
  rw [errV_none]
  go_wp2_with (fail)
  refine (many_any _ 201 (by omega) (by omega)).mono ?_
  rintro e w17 ⟨rfl, hb17⟩
  have h17 := H16.out.below hb17; have H17 := Lib.hid h17; clear h17 hb17
  go_wp2_with (fail)
  refine (Create_m H17.out (manyL 201) dk9_eq (by omega) (by decide)).mono ?_
  rintro e w18 ⟨rfl, ⟨A18, h18⟩, -⟩
  have H18 := Lib.hid h18; clear h18
  go_wp2_with (fail)
  refine (Plain_same 21 _ (by omega) (hg.below H18.out.bel)).mono ?_
  rintro e w19 ⟨rfl, hb19⟩
  have h19 := H18.out.below hb19; have H19 := Lib.hid h19; clear h19 hb19
  go_wp2_with (fail)
  refine (Rename_m H19.out [98] [] dk10_eq (by omega) (by simp [manyL]) (by simp [manyL])).mono ?_
  rintro e w20 ⟨rfl, ⟨A20, h20⟩, -⟩
  have H20 := Lib.hid h20; clear h20
  go_wp2_with (fail)
  refine (Plain_same 18 _ (by omega) (hg.below H20.out.bel)).mono ?_
  rintro e w21 ⟨rfl, hb21⟩
  have h21 := H20.out.below hb21; have H21 := Lib.hid h21; clear h21 hb21
  go_wp2_with (fail)
  refine (Rename_m H21.out [97] [] dk11_eq (by omega) (by simp [manyL]) (by simp [manyL])).mono ?_
  rintro e w22 ⟨rfl, ⟨A22, h22⟩, -⟩
  have H22 := Lib.hid h22; clear h22
  go_wp2_with (fail)
  refine (Plain_same 21 _ (by omega) (hg.below H22.out.bel)).mono ?_
  rintro e w23 ⟨rfl, hb23⟩
  have h23 := H22.out.below hb23; have H23 := Lib.hid h23; clear h23 hb23
  go_wp2_with (fail)
  refine (many_any _ 201 (by omega) (by omega)).mono ?_
  rintro e w24 ⟨rfl, hb24⟩
  have h24 := H23.out.below hb24; have H24 := Lib.hid h24; clear h24 hb24
  go_wp2_with (fail)
  refine (Rename_m H24.out [97] (manyL 201) dk12_eq (by omega) (by simp [manyL]) (by simp [manyL])).mono ?_
  rintro e w25 ⟨rfl, ⟨A25, h25⟩, -⟩
  have H25 := Lib.hid h25; clear h25
  go_wp2_with (fail)
  refine (Plain_same 21 _ (by omega) (hg.below H25.out.bel)).mono ?_
  rintro e w26 ⟨rfl, hb26⟩
  have h26 := H25.out.below hb26; have H26 := Lib.hid h26; clear h26 hb26
  go_wp2_with (fail)
  refine (Rename_m H26.out [97] [97] dk13_eq (by omega) (by simp [manyL]) (by simp [manyL])).mono ?_
  rintro e w27 ⟨rfl, ⟨A27, h27⟩, -⟩
  have H27 := Lib.hid h27; clear h27
  rw [errV_none]
  go_wp2_with (fail)
  refine (Remove_m H27.out [98] dk14_eq (by omega) (by decide)).mono ?_
  rintro e w28 ⟨rfl, ⟨A28, h28⟩, -⟩
  have H28 := Lib.hid h28; clear h28
  go_wp2_with (fail)
  refine (Plain_same 18 _ (by omega) (hg.below H28.out.bel)).mono ?_
  rintro e w29 ⟨rfl, hb29⟩
  have h29 := H28.out.below hb29; have H29 := Lib.hid h29; clear h29 hb29
  go_wp2_with (fail)
  refine (Sync_m H29.out [98] dk15_eq (by omega) (by decide)).mono ?_
  rintro e w30 ⟨rfl, ⟨A30, h30⟩, -⟩
  have H30 := Lib.hid h30; clear h30
  go_wp2_with (fail)
  refine (Plain_same 18 _ (by omega) (hg.below H30.out.bel)).mono ?_
  rintro e w31 ⟨rfl, hb31⟩
  have h31 := H30.out.below hb31; have H31 := Lib.hid h31; clear h31 hb31
  go_wp2_with (fail)
  refine (Write_m H31.out [97] [] dk16_eq (by omega) (by simp [manyL]) (by simp [manyL])).mono ?_
  rintro e w32 ⟨rfl, ⟨A32, h32⟩, -⟩
  have H32 := Lib.hid h32; clear h32
  rw [errV_none]
  go_wp2_with (fail)
  refine (New_m w _ H32.out.bel [] (fun k hk => by cases hk) (-1)).mono ?_
  rintro e w33 ⟨g2, A33, rfl, h33, -⟩
  have H33 := Lib.hid h33; clear h33
  go_wp2_with (fail)
  refine (Create_m H33.out [97] dk17_eq (by omega) (by decide)).mono ?_
  rintro e w34 ⟨rfl, ⟨A34, h34⟩, -⟩
  have H34 := Lib.hid h34; clear h34
  rw [errV_none]
  go_wp2_with (fail)
  refine (Write_m H34.out [97] [120] dk18_eq (by omega) (by simp [manyL]) (by simp [manyL])).mono ?_
  rintro e w35 ⟨rfl, ⟨A35, h35⟩, -⟩
  have H35 := Lib.hid h35; clear h35
  go_wp2_with (fail)
  refine (Plain_same 19 _ (by omega) (hg.below H35.out.bel)).mono ?_
  rintro e w36 ⟨rfl, hb36⟩
  have h36 := H35.out.below hb36; have H36 := Lib.hid h36; clear h36 hb36
  go_wp2_with (fail)
  refine (Write_m H36.out [97] [] dk19_eq (by omega) (by simp [manyL]) (by simp [manyL])).mono ?_
  rintro e w37 ⟨rfl, ⟨A37, h37⟩, -⟩
  have H37 := Lib.hid h37; clear h37
  rw [errV_none]
  go_wp2_with (fail)
  refine (fresh_any w _ H37.out.bel).mono ?_
  rintro e w38 ⟨g38, A38, rfl, h38⟩
  have H38 := Lib.hid h38; clear h38
  go_wp2_with (fail)
  refine (AfterNil H38.out (by omega) (by kernel_rfl)).mono ?_
  rintro e w39 ⟨rfl, hb39⟩
  have B39 := Lib.hid hb39; clear hb39
  go_wp2_with (fail)
  refine (fresh_any w _ B39.out).mono ?_
  rintro e w40 ⟨g40, A40, rfl, h40⟩
  have H40 := Lib.hid h40; clear h40
  go_wp2_with (fail)
  refine (AfterOne H40.out (by omega) [1, 1] [97] [120, 121] (by decide) (by kernel_rfl)).mono ?_
  rintro e w41 ⟨rfl, hb41⟩
  have B41 := Lib.hid hb41; clear hb41
  go_wp2_with (fail)
  refine (fresh_any w _ B41.out).mono ?_
  rintro e w42 ⟨g42, A42, rfl, h42⟩
  have H42 := Lib.hid h42; clear h42
  go_wp2_with (fail)
  refine (AfterOne H42.out (by omega) [1, 0] [97] [] (by decide) (by kernel_rfl)).mono ?_
  rintro e w43 ⟨rfl, hb43⟩
  have B43 := Lib.hid hb43; clear hb43
  go_wp2_with (fail)
  refine (fresh_any w _ B43.out).mono ?_
  rintro e w44 ⟨g44, A44, rfl, h44⟩
  have H44 := Lib.hid h44; clear h44
  go_wp2_with (fail)
  refine (AfterOne H44.out (by omega) [1, 2] [97] [120] (by decide) (by kernel_rfl)).mono ?_
  rintro e w45 ⟨rfl, hb45⟩
  have B45 := Lib.hid hb45; clear hb45
  go_wp2_with (fail)
  refine (fresh_any w _ B45.out).mono ?_
  rintro e w46 ⟨g46, A46, rfl, h46⟩
  have H46 := Lib.hid h46; clear h46
  go_wp2_with (fail)
  refine (AfterOne H46.out (by omega) [1, 3] [97] [0, 0] (by decide) (by kernel_rfl)).mono ?_
  rintro e w47 ⟨rfl, hb47⟩
  have B47 := Lib.hid hb47; clear hb47
  go_wp2_with (fail)
  refine (fresh_any w _ B47.out).mono ?_
  rintro e w48 ⟨g48, A48, rfl, h48⟩
  have H48 := Lib.hid h48; clear h48
  go_wp2_with (fail)
  refine (AfterOne H48.out (by omega) [-1, -1] [97] [0, 0] (by decide) (by kernel_rfl)).mono ?_
  rintro e w49 ⟨rfl, hb49⟩
  have B49 := Lib.hid hb49; clear hb49
  go_wp2_with (fail)
  refine (fresh_any w _ B49.out).mono ?_
  rintro e w50 ⟨g50, A50, rfl, h50⟩
  have H50 := Lib.hid h50; clear h50
  go_wp2_with (fail)
  refine (AfterOne H50.out (by omega) [3, 5] [97] [120, 121] (by decide) (by kernel_rfl)).mono ?_
  rintro e w51 ⟨rfl, hb51⟩
  have B51 := Lib.hid hb51; clear hb51
  go_wp2_with (fail)
  refine (fresh_any w _ B51.out).mono ?_
  rintro e w52 ⟨g52, A52, rfl, h52⟩
  have H52 := Lib.hid h52; clear h52
  go_wp2_with (fail)
  refine (Write_m H52.out [97] [122] dk20_eq (by omega) (by simp [manyL]) (by simp [manyL])).mono ?_
  rintro e w53 ⟨rfl, ⟨A53, h53⟩, -⟩
  have H53 := Lib.hid h53; clear h53
  rw [errV_none]
  go_wp2_with (fail)
  refine (AfterOne H53.out (by omega) [1, 2] [97] [120] (by decide) (by kernel_rfl)).mono ?_
  rintro e w54 ⟨rfl, hb54⟩
  have B54 := Lib.hid hb54; clear hb54
  go_wp2_with (fail)
  refine (begun_any w _ B54.out).mono ?_
  rintro e w55 ⟨g55, A55, rfl, h55⟩
  have H55 := Lib.hid h55; clear h55
  go_wp2_with (fail)
  refine (AfterOne H55.out (by omega) [1, 1] [97] [120, 121] (by decide) (by kernel_rfl)).mono ?_
  rintro e w56 ⟨rfl, hb56⟩
  have B56 := Lib.hid hb56; clear hb56
  go_wp2_with (fail)
  refine (begun_any w _ B56.out).mono ?_
  rintro e w57 ⟨g57, A57, rfl, h57⟩
  have H57 := Lib.hid h57; clear h57
  go_wp2_with (fail)
  refine (AfterNone H57.out (by omega) [0, 1] (by decide) (by kernel_rfl)).mono ?_
  rintro e w58 ⟨rfl, hb58⟩
  have B58 := Lib.hid hb58; clear hb58
  go_wp2_with (fail)
  refine (begun_any w _ B58.out).mono ?_
  rintro e w59 ⟨g59, A59, rfl, h59⟩
  have H59 := Lib.hid h59; clear h59
  go_wp2_with (fail)
  refine (AfterOne H59.out (by omega) [1, 0] [116] [120, 121] (by decide) (by kernel_rfl)).mono ?_
  rintro e w60 ⟨rfl, hb60⟩
  have B60 := Lib.hid hb60; clear hb60
  go_wp2_with (fail)
  refine (turned_any w _ B60.out).mono ?_
  rintro e w61 ⟨g61, A61, rfl, h61⟩
  have H61 := Lib.hid h61; clear h61
  go_wp2_with (fail)
  refine (AfterOne H61.out (by omega) [0, 0] [97] [120, 121] (by decide) (by kernel_rfl)).mono ?_
  rintro e w62 ⟨rfl, hb62⟩
  have B62 := Lib.hid hb62; clear hb62
  go_wp2_with (fail)
  refine (turned_any w _ B62.out).mono ?_
  rintro e w63 ⟨g63, A63, rfl, h63⟩
  have H63 := Lib.hid h63; clear h63
  go_wp2_with (fail)
  refine (AfterOne H63.out (by omega) [1, 1] [97] [] (by decide) (by kernel_rfl)).mono ?_
  rintro e w64 ⟨rfl, hb64⟩
  have B64 := Lib.hid hb64; clear hb64
  go_wp2_with (fail)
  refine (turned_any w _ B64.out).mono ?_
  rintro e w65 ⟨g65, A65, rfl, h65⟩
  have H65 := Lib.hid h65; clear h65
  go_wp2_with (fail)
  refine (AfterOne H65.out (by omega) [0, 1] [97] [] (by decide) (by kernel_rfl)).mono ?_
  rintro e w66 ⟨rfl, hb66⟩
  have B66 := Lib.hid hb66; clear hb66
  go_wp2_with (fail)
  refine (turned_any w _ B66.out).mono ?_
  rintro e w67 ⟨g67, A67, rfl, h67⟩
  have H67 := Lib.hid h67; clear h67
  go_wp2_with (fail)
  refine (AfterNone H67.out (by omega) [1, 0] (by decide) (by kernel_rfl)).mono ?_
  rintro e w68 ⟨rfl, hb68⟩
  have B68 := Lib.hid hb68; clear hb68
  go_wp2_with (fail)
  refine (struck_any _ (hg.below B68.out)).mono ?_
  rintro e w69 ⟨rfl, hb69⟩
  have hc69 := B68.out.trans (hb69.mono B68.out.size); have B69 := Lib.hid hc69; clear hb69 hc69
  go_wp2_with (fail)
  refine (works22_any _ (hg.below B69.out)).mono ?_
  rintro e w70 ⟨rfl, hb70⟩
  have hc70 := B69.out.trans (hb70.mono B69.out.size); have B70 := Lib.hid hc70; clear hb70 hc70
  go_wp2
  go_ret
  exact ⟨rfl, B70.out⟩
end Go.Proofs.YtfgpigblnkanpaaGreatDoor
