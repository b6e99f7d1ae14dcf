/- The walks of the statements' Plain, Place and At, at the errors of package api. -/
import Derived.Test.YtfgpigblnkanpaaGreatDoorAs3
import Derived.Test.YtfgpigblnkanpaaGreatDoorNum
import Derived.BigQuiet
import Derived.Deep.RegionHeld3
namespace Go.Proofs.YtfgpigblnkanpaaGreatDoor
open Go.RowKit

set_option maxHeartbeats 1000000 in
set_option maxRecDepth 100000 in
theorem Plain_same (no : Nat) (w : World) (h : no ≤ 25) (hg : ErrorLaid w) : Calls Tryz.prog 28 #[errV no, .int .i64 no] w fun e w' => e = .returned (.bool true) ∧ Below w.heap.size w w' := by
  by_cases h0 : no = 0
  · subst h0
    rw [errV_none]
    go_enter Tryz.func28, Tryz.ntmps28
    go_wp2_with (fail)
    refine (Num_nil _).mono ?_
    rintro e w1 ⟨rfl, hb1⟩
    go_wp2
    go_ret
    exact ⟨rfl, ((Below.refl _ w).alloc (Nat.le_refl _) _).trans (hb1.mono (by simp))⟩
  · have hnum := fun w => Num_errno no w (by omega) h
    rw [errV_some h0] at hnum ⊢
    have HN := Lib.hid hnum
    clear hnum
    have hB0 := (Below.refl w.heap.size w).alloc (Nat.le_refl _) (.cells #[.int .i64 0, .int .i64 0, .int .i64 0] 135)
    have hg1 := hg.below hB0
    go_enter Tryz.func28, Tryz.ntmps28
    go_wp2_with (fail)
    refine (HN.out _).mono ?_
    rintro e w1 ⟨rfl, hb1⟩
    have hB := hB0.trans (hb1.mono (by simp))
    have hg2 := hg.below hB
    go_wp2_with (fail)
    refine (As_miss _ _ _ hg2).mono ?_
    rintro e w2 ⟨rfl, hb2⟩
    go_wp2
    go_ret
    exact ⟨rfl, hB.trans (hb2.mono hB.size)⟩
end Go.Proofs.YtfgpigblnkanpaaGreatDoor
