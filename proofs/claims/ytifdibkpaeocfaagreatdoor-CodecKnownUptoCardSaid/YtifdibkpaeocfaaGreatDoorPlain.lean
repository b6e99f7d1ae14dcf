/- The walks of the statements' Plain, Place and At, at the errors of package api. -/
import Derived.Test.YtifdibkpaeocfaaGreatDoorAs3
import Derived.Test.YtifdibkpaeocfaaGreatDoorNum
import Derived.BigQuiet
import Derived.Deep.RegionHeld3
namespace Go.Proofs.YtifdibkpaeocfaaGreatDoor
open Go.RowKit

set_option maxHeartbeats 1000000 in
set_option maxRecDepth 100000 in
theorem Plain_same (no : Nat) (w : World) (h : no ≤ 25) (hg : ErrorLaid w) : Calls Tryz.prog 16 #[errV no, .int .i64 no] w fun e w' => e = .returned (.bool true) ∧ Below w.heap.size w w' := by
  by_cases h0 : no = 0
  · subst h0
    rw [errV_none]
    go_enter Tryz.func16, Tryz.ntmps16
    go_wp2_with (fail)
    refine (Num_nil _).mono ?_
    rintro e w1 ⟨rfl, hb1⟩
    go_wp2
    go_ret
    exact ⟨rfl, ((Below.refl _ w).alloc (Nat.le_refl _) _).trans (hb1.mono (by simp))⟩
  · have hnum := fun w => Num_errno no w (by omega) h
    rw [errV_some h0] at hnum ⊢
    have HN := Lib.hid hnum
    clear hnum
    have hB0 := (Below.refl w.heap.size w).alloc (Nat.le_refl _) (.cells #[.int .i64 0, .int .i64 0, .int .i64 0] 96)
    have hg1 := hg.below hB0
    go_enter Tryz.func16, Tryz.ntmps16
    go_wp2_with (fail)
    refine (HN.out _).mono ?_
    rintro e w1 ⟨rfl, hb1⟩
    have hB := hB0.trans (hb1.mono (by simp))
    have hg2 := hg.below hB
    go_wp2_with (fail)
    refine (As_miss _ _ _ hg2).mono ?_
    rintro e w2 ⟨rfl, hb2⟩
    go_wp2
    go_ret
    exact ⟨rfl, hB.trans (hb2.mono hB.size)⟩
set_option maxHeartbeats 1000000 in
set_option maxRecDepth 100000 in
theorem Place_fault (no : Nat) (line at_ : Int) (w : World) (h1 : 1 ≤ no) (h : no ≤ 25) (hg : ErrorLaid w) : Calls Tryz.prog 115 #[faultsV no line at_] w fun e w' => e = .returned (.tuple #[.int .i64 line, .int .i64 at_, .bool true]) ∧ Below w.heap.size w w' := by
  have hnum := fun w => Num_fault no line at_ w h1 h
  have hB0 := (Below.refl w.heap.size w).alloc (Nat.le_refl _) (.cells #[.int .i64 0, .int .i64 0, .int .i64 0] 96)
  have hg1 := hg.below hB0
  have hrow := Blk.new w [.int .i64 0, .int .i64 0, .int .i64 0] 96
  have hhit := As_hit no line at_ _ _ _ hg1 hrow rfl
  have HN := Lib.hid hnum
  have HH := Lib.hid hhit
  clear hnum hhit
  unfold faultsV at *
  go_enter Tryz.func115, Tryz.ntmps115
  go_wp2_with (fail)
  refine HH.out.mono ?_
  rintro e w1 ⟨rfl, hr1, hb1⟩
  have hB := hB0.trans (hb1 _ (Nat.le_refl _))
  clear hb1 HH
  go_wp2_with (fail)
  have c0 := hr1.cell 0
  have c1 := hr1.cell 1
  have c2 := hr1.cell 2
  simp only [List.getElem?_cons_zero, List.getElem?_cons_succ] at c0 c1 c2
  have hlt := hr1.lt
  have hl0 : w.heap.size < w1.heap.size := hlt
  go_region_held3 (fun w' => w'.cell? ⟨w.heap.size, 0, none⟩ = some (.int .i64 no) ∧ w'.cell? ⟨w.heap.size, 1, none⟩ = some (.int .i64 line) ∧ w'.cell? ⟨w.heap.size, 2, none⟩ = some (.int .i64 at_)) (go_keep)
    (first | (go_at_call 40; refine (HN.out _).mono ?_; rintro e w2 ⟨rfl, hb2⟩; have k0 := (hb2.cell (p := ⟨w.heap.size, 0, none⟩) hl0).trans c0; have k1 := (hb2.cell (p := ⟨w.heap.size, 1, none⟩) hl0).trans c1; have k2 := (hb2.cell (p := ⟨w.heap.size, 2, none⟩) hl0).trans c2))
  go_wp2
  go_ret3
  exact ⟨rfl, hB.trans ((below_undrew hb2).mono hB.size)⟩
set_option maxHeartbeats 1000000 in
set_option maxRecDepth 100000 in
theorem At_fault (no : Nat) (line at_ : Int) (w : World) (h1 : 1 ≤ no) (h : no ≤ 25) (hg : ErrorLaid w) : Calls Tryz.prog 79 #[faultsV no line at_, .int .i64 no, .int .i64 line, .int .i64 at_] w fun e w' => e = .returned (.bool true) ∧ Below w.heap.size w w' := by
  have hnum := fun w => Num_fault no line at_ w h1 h
  have hpl := Place_fault no line at_ w h1 h hg
  have hne : ((no : Int) == 0) = false := by simp; omega
  have HN := Lib.hid hnum
  have HP := Lib.hid hpl
  clear hnum hpl
  unfold faultsV at *
  go_enter Tryz.func79, Tryz.ntmps79
  go_wp2_with (fail)
  refine HP.out.mono ?_
  rintro e w1 ⟨rfl, hb1⟩
  go_wp2_with (fail)
  refine (HN.out _).mono ?_
  rintro e w2 ⟨rfl, hb2⟩
  go_wp2
  go_ret
  exact ⟨rfl, hb1.trans (hb2.mono hb1.size)⟩
end Go.Proofs.YtifdibkpaeocfaaGreatDoor
