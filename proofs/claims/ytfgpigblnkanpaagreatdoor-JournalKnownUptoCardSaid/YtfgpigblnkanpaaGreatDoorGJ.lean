/- Printed by gen_ld.py. The walks of the closed helpers of the statements on disks: works, fresh, begun, turned. -/
import Derived.Test.YtfgpigblnkanpaaGreatDoorGP
namespace Go.Proofs.YtfgpigblnkanpaaGreatDoor
open Go.RowKit Go.Maps Go.Shelf
set_option linter.unusedVariables false

theorem List_m {w0 w : World} {K A : List Nat} {g : Nat} {d : Dk} {N : Nat} (h : Mine w0 w K A g d N) (l : List Nm) (hoff : d.off = false) (hc : (dshown d).1 = l) (hN : N < 4294967296) : Calls Tryz.prog 14 #[.pointer (some ⟨g, 0, none⟩), strV []] w fun e w' => ∃ v, e = .returned (.tuple #[v, .nilIface]) ∧ TextsAt w' v l ∧ Mine w0 w' (v.ownBlock.toList ++ K) A g d N ∧ Below w.heap.size w w' := by
  refine (List_hd h.hd hN [] (by simp)).mono ?_
  rintro e w' ⟨v, rfl, hr, hn, hb⟩
  rw [dlist_all hoff, hc] at hr
  refine ⟨v, by rw [if_neg (by simp [hoff]), errV_none], RowAt.of_row hr, h.add hb _ (fun k hk => ?_), hb⟩
  have := hr.lt k (by simpa using hk)
  exact this
def wk1 : Dk := (ddo (dnew (9)) (.create [97])).1
set_option maxRecDepth 100000 in theorem wk1_eq : ddo (dnew (9)) (.create [97]) = (wk1, 0) := ddo_eq rfl (by kernel_rfl)
def wk2 : Dk := (ddo wk1 (.create [97])).1
set_option maxRecDepth 100000 in theorem wk2_eq : ddo wk1 (.create [97]) = (wk2, 13) := ddo_eq rfl (by kernel_rfl)
def wk3 : Dk := (ddo wk2 (.write [97] [120, 121])).1
set_option maxRecDepth 100000 in theorem wk3_eq : ddo wk2 (.write [97] [120, 121]) = (wk3, 0) := ddo_eq rfl (by kernel_rfl)
def wk4 : Dk := (ddo wk3 (.sync [97])).1
set_option maxRecDepth 100000 in theorem wk4_eq : ddo wk3 (.sync [97]) = (wk4, 0) := ddo_eq rfl (by kernel_rfl)
def wk5 : Dk := (ddo wk4 (.flush)).1
set_option maxRecDepth 100000 in theorem wk5_eq : ddo wk4 (.flush) = (wk5, 0) := ddo_eq rfl (by kernel_rfl)
def wk6 : Dk := (ddo wk5 (.write [97] [122])).1
set_option maxRecDepth 100000 in theorem wk6_eq : ddo wk5 (.write [97] [122]) = (wk6, 0) := ddo_eq rfl (by kernel_rfl)
def wk7 : Dk := (ddo wk6 (.create [98])).1
set_option maxRecDepth 100000 in theorem wk7_eq : ddo wk6 (.create [98]) = (wk7, 0) := ddo_eq rfl (by kernel_rfl)
def wk8 : Dk := dcrash wk7 []
def wk9 : Dk := drevive wk8
set_option maxHeartbeats 4000000 in
set_option maxRecDepth 100000 in
theorem works22_any (w : World) (hg : ErrorLaid w) : Calls Tryz.prog 12 #[] w fun e w' => e = .returned (.bool true) ∧ Below w.heap.size w w' := by
  go_enter Tryz.func12, Tryz.ntmps12
  go_wp2_with (fail)
  refine (New_m w _ (Below.refl _ _) [] (fun k hk => by cases hk) (9)).mono ?_
  rintro e w1 ⟨g1, A1, rfl, h1, -⟩
  have H1 := Lib.hid h1; clear h1
  go_wp2_with (fail)
  refine (Create_m H1.out [97] wk1_eq (by omega) (by decide)).mono ?_
  rintro e w2 ⟨rfl, ⟨A2, h2⟩, -⟩
  have H2 := Lib.hid h2; clear h2
  rw [errV_none]
  go_wp2_with (fail)
  refine (Create_m H2.out [97] wk2_eq (by omega) (by decide)).mono ?_
  rintro e w3 ⟨rfl, ⟨A3, h3⟩, -⟩
  have H3 := Lib.hid h3; clear h3
  go_wp2_with (fail)
  refine (Plain_same 13 _ (by omega) (hg.below H3.out.bel)).mono ?_
  rintro e w4 ⟨rfl, hb4⟩
  have h4 := H3.out.below hb4; have H4 := Lib.hid h4; clear h4 hb4
  go_wp2_with (fail)
  refine (Write_m H4.out [97] [120, 121] wk3_eq (by omega) (by decide) (by decide)).mono ?_
  rintro e w5 ⟨rfl, ⟨A5, h5⟩, -⟩
  have H5 := Lib.hid h5; clear h5
  rw [errV_none]
  go_wp2_with (fail)
  refine (Sync_m H5.out [97] wk4_eq (by omega) (by decide)).mono ?_
  rintro e w6 ⟨rfl, ⟨A6, h6⟩, -⟩
  have H6 := Lib.hid h6; clear h6
  rw [errV_none]
  go_wp2_with (fail)
  refine (Flush_m H6.out  wk5_eq (by omega)).mono ?_
  rintro e w7 ⟨rfl, ⟨A7, h7⟩, -⟩
  have H7 := Lib.hid h7; clear h7
  rw [errV_none]
  go_wp2_with (fail)
  refine (Write_m H7.out [97] [122] wk6_eq (by omega) (by decide) (by decide)).mono ?_
  rintro e w8 ⟨rfl, ⟨A8, h8⟩, -⟩
  have H8 := Lib.hid h8; clear h8
  rw [errV_none]
  go_wp2_with (fail)
  refine (Create_m H8.out [98] wk7_eq (by omega) (by decide)).mono ?_
  rintro e w9 ⟨rfl, ⟨A9, h9⟩, -⟩
  have H9 := Lib.hid h9; clear h9
  rw [errV_none]
  go_wp2_with (fail)
  refine (Used_m H9.out (k := 3) (by kernel_rfl) (by omega)).mono ?_
  rintro e w10 ⟨rfl, hb10⟩
  have h10 := H9.out.below hb10; have H10 := Lib.hid h10; clear h10 hb10
  go_wp2_with (fail)
  refine (Crash_m H10.out _ [] (d' := wk8) rfl (by omega) (IntsAt.nil _ none 0) (fun j hj => (usesOf_nil hj).elim)).mono ?_
  rintro e w11 ⟨rfl, ⟨A11, h11⟩, -⟩
  have H11 := Lib.hid h11; clear h11
  go_wp2_with (fail)
  refine (Read_m H11.out [97] (s := []) (c := 20) (by kernel_rfl) (by decide)).mono ?_
  rintro e w12 ⟨rfl, rfl⟩
  go_wp2_with (fail)
  refine (Revive_m H11.out (d' := wk9) rfl).mono ?_
  rintro e w13 ⟨rfl, ⟨A13, h13⟩, -⟩
  have H13 := Lib.hid h13; clear h13
  go_wp2_with (fail)
  refine (Read_m H13.out [97] (s := [120, 121]) (c := 0) (by kernel_rfl) (by decide)).mono ?_
  rintro e w14 ⟨rfl, rfl⟩
  rw [errV_none]
  go_wp2_with (fail)
  refine (List_m H13.out [[97]] rfl (by kernel_rfl) (by omega)).mono ?_
  rintro e wl ⟨lv, rfl, hrow, hl, -⟩
  have HL := Lib.hid hl; clear hl
  have HROW := Lib.hid hrow
  obtain ⟨la, lc, rfl, hx⟩ := hrow.shape
  obtain ⟨lb, lo, rfl, hcell, -⟩ := hx 0 _ rfl
  have hrow2 := fun ww (hb : Below wl.heap.size wl ww) => (hb.cell (p := ⟨lb, lo + 0, none⟩) (World.block_lt_of_cell? wl _ hcell)).trans hcell
  have HR2 := Lib.hid hrow2
  clear hrow hx hcell hrow2
  go_wp2_with (fail)
  refine (Plain_same 20 _ (by omega) (hg.below HL.out.bel)).mono ?_
  rintro e we ⟨rfl, hbe⟩
  have hcell := HR2.out we hbe
  have HBE := Lib.hid hbe; clear hbe
  simp only [Nat.add_zero] at hcell
  have t1 : ((str [120, 121]).toList == [120, 121]) = true := by rw [toList_str]; rfl
  have t2 : ((str [97]).toList == [97]) = true := by rw [toList_str]; rfl
  go_wp2
  go_ret
  exact ⟨rfl, (HL.out.below HBE.out).bel⟩
def fr1 : Dk := (ddo (dnew (99)) (.create [97])).1
set_option maxRecDepth 100000 in theorem fr1_eq : ddo (dnew (99)) (.create [97]) = (fr1, 0) := ddo_eq rfl (by kernel_rfl)
def fr2 : Dk := (ddo fr1 (.write [97] [120, 121])).1
set_option maxRecDepth 100000 in theorem fr2_eq : ddo fr1 (.write [97] [120, 121]) = (fr2, 0) := ddo_eq rfl (by kernel_rfl)
set_option maxHeartbeats 4000000 in
set_option maxRecDepth 100000 in
theorem fresh_any (w0 w : World) (hb : Below w0.heap.size w0 w) : Calls Tryz.prog 36 #[] w fun e w' => ∃ g A, e = .returned (.pointer (some ⟨g, 0, none⟩)) ∧ Mine w0 w' [] A g fr2 2 := by
  have HB := Lib.hid hb
  clear hb
  go_enter Tryz.func36, Tryz.ntmps36
  go_wp2_with (fail)
  refine (New_m w0 _ HB.out [] (fun k hk => by cases hk) (99)).mono ?_
  rintro e w1 ⟨g1, A1, rfl, h1, -⟩
  have H1 := Lib.hid h1; clear h1
  go_wp2_with (fail)
  refine (Create_m H1.out [97] fr1_eq (by omega) (by decide)).mono ?_
  rintro e w2 ⟨rfl, ⟨A2, h2⟩, -⟩
  have H2 := Lib.hid h2; clear h2
  rw [errV_none]
  go_wp2_with (fail)
  refine (Write_m H2.out [97] [120, 121] fr2_eq (by omega) (by decide) (by decide)).mono ?_
  rintro e w3 ⟨rfl, ⟨A3, h3⟩, -⟩
  have H3 := Lib.hid h3; clear h3
  rw [errV_none]
  go_wp2
  go_ret
  exact ⟨_, _, rfl, H3.out⟩
def bg1 : Dk := (ddo (dnew (99)) (.create [116])).1
set_option maxRecDepth 100000 in theorem bg1_eq : ddo (dnew (99)) (.create [116]) = (bg1, 0) := ddo_eq rfl (by kernel_rfl)
def bg2 : Dk := (ddo bg1 (.write [116] [120, 121])).1
set_option maxRecDepth 100000 in theorem bg2_eq : ddo bg1 (.write [116] [120, 121]) = (bg2, 0) := ddo_eq rfl (by kernel_rfl)
def bg3 : Dk := (ddo bg2 (.sync [116])).1
set_option maxRecDepth 100000 in theorem bg3_eq : ddo bg2 (.sync [116]) = (bg3, 0) := ddo_eq rfl (by kernel_rfl)
def bg4 : Dk := (ddo bg3 (.rename [116] [97])).1
set_option maxRecDepth 100000 in theorem bg4_eq : ddo bg3 (.rename [116] [97]) = (bg4, 0) := ddo_eq rfl (by kernel_rfl)
set_option maxHeartbeats 4000000 in
set_option maxRecDepth 100000 in
theorem begun_any (w0 w : World) (hb : Below w0.heap.size w0 w) : Calls Tryz.prog 37 #[] w fun e w' => ∃ g A, e = .returned (.pointer (some ⟨g, 0, none⟩)) ∧ Mine w0 w' [] A g bg4 4 := by
  have HB := Lib.hid hb
  clear hb
  go_enter Tryz.func37, Tryz.ntmps37
  go_wp2_with (fail)
  refine (New_m w0 _ HB.out [] (fun k hk => by cases hk) (99)).mono ?_
  rintro e w1 ⟨g1, A1, rfl, h1, -⟩
  have H1 := Lib.hid h1; clear h1
  go_wp2_with (fail)
  refine (Create_m H1.out [116] bg1_eq (by omega) (by decide)).mono ?_
  rintro e w2 ⟨rfl, ⟨A2, h2⟩, -⟩
  have H2 := Lib.hid h2; clear h2
  rw [errV_none]
  go_wp2_with (fail)
  refine (Write_m H2.out [116] [120, 121] bg2_eq (by omega) (by decide) (by decide)).mono ?_
  rintro e w3 ⟨rfl, ⟨A3, h3⟩, -⟩
  have H3 := Lib.hid h3; clear h3
  rw [errV_none]
  go_wp2_with (fail)
  refine (Sync_m H3.out [116] bg3_eq (by omega) (by decide)).mono ?_
  rintro e w4 ⟨rfl, ⟨A4, h4⟩, -⟩
  have H4 := Lib.hid h4; clear h4
  rw [errV_none]
  go_wp2_with (fail)
  refine (Rename_m H4.out [116] [97] bg4_eq (by omega) (by decide) (by decide)).mono ?_
  rintro e w5 ⟨rfl, ⟨A5, h5⟩, -⟩
  have H5 := Lib.hid h5; clear h5
  rw [errV_none]
  go_wp2
  go_ret
  exact ⟨_, _, rfl, H5.out⟩
def tu1 : Dk := (ddo bg4 (.flush)).1
set_option maxRecDepth 100000 in theorem tu1_eq : ddo bg4 (.flush) = (tu1, 0) := ddo_eq rfl (by kernel_rfl)
def tu2 : Dk := (ddo tu1 (.remove [97])).1
set_option maxRecDepth 100000 in theorem tu2_eq : ddo tu1 (.remove [97]) = (tu2, 0) := ddo_eq rfl (by kernel_rfl)
def tu3 : Dk := (ddo tu2 (.create [97])).1
set_option maxRecDepth 100000 in theorem tu3_eq : ddo tu2 (.create [97]) = (tu3, 0) := ddo_eq rfl (by kernel_rfl)
set_option maxHeartbeats 4000000 in
set_option maxRecDepth 100000 in
theorem turned_any (w0 w : World) (hb : Below w0.heap.size w0 w) : Calls Tryz.prog 38 #[] w fun e w' => ∃ g A, e = .returned (.pointer (some ⟨g, 0, none⟩)) ∧ Mine w0 w' [] A g tu3 7 := by
  have HB := Lib.hid hb
  clear hb
  go_enter Tryz.func38, Tryz.ntmps38
  go_wp2_with (fail)
  refine (begun_any w0 _ HB.out).mono ?_
  rintro e w1 ⟨g1, A1, rfl, h1⟩
  have H1 := Lib.hid h1; clear h1
  go_wp2_with (fail)
  refine (Flush_m H1.out  tu1_eq (by omega)).mono ?_
  rintro e w2 ⟨rfl, ⟨A2, h2⟩, -⟩
  have H2 := Lib.hid h2; clear h2
  rw [errV_none]
  go_wp2_with (fail)
  refine (Remove_m H2.out [97] tu2_eq (by omega) (by decide)).mono ?_
  rintro e w3 ⟨rfl, ⟨A3, h3⟩, -⟩
  have H3 := Lib.hid h3; clear h3
  rw [errV_none]
  go_wp2_with (fail)
  refine (Create_m H3.out [97] tu3_eq (by omega) (by decide)).mono ?_
  rintro e w4 ⟨rfl, ⟨A4, h4⟩, -⟩
  have H4 := Lib.hid h4; clear h4
  rw [errV_none]
  go_wp2
  go_ret
  exact ⟨_, _, rfl, H4.out⟩
end Go.Proofs.YtfgpigblnkanpaaGreatDoor
