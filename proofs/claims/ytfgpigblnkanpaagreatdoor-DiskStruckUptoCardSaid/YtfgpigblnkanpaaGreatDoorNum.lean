/- The walk of the statements' Num, at the errors of package api. -/
import Derived.Test.YtfgpigblnkanpaaGreatDoorIs
namespace Go.Proofs.YtfgpigblnkanpaaGreatDoor
open Go.RowKit

set_option maxHeartbeats 1000000 in
set_option maxRecDepth 100000 in
theorem Num_any (no : Nat) (v : Value) (w : World) (h1 : 1 ≤ no) (h2 : no ≤ 25) (hv : ∃ t x, v = .iface t x) (hIs : Hid (∀ (n : Int) w, Calls Tryz.prog 82 #[v, .iface 102 (.int .i64 n)] w fun e w' => e = .returned (.bool ((no : Int) == n)) ∧ Below w.heap.size w w')) : Calls Tryz.prog 27 #[v] w fun e w' => e = .returned (.int .i64 no) ∧ Below w.heap.size w w' := by
  obtain ⟨t, x, rfl⟩ := hv
  go_enter Tryz.func27, Tryz.ntmps27
  go_wp2
  go_loopw [3, 4] (fun fv nv wr => ∃ n : Nat, nv = .int .i64 n ∧ 1 ≤ n ∧ n ≤ 26 ∧ fv = .int .i64 (if no < n then no else 0 : Nat) ∧ Below w.heap.size w wr) (fun _ nv _ => 26 - (intOf nv).toNat)
  case atStart => exact ⟨1, rfl, by omega, by omega, by rw [if_neg (by omega)]; rfl, Below.refl _ _⟩
  case round =>
    obtain ⟨n, rfl, hn1, hn2, rfl, hbel⟩ := hrel
    have hbs := hbel.size
    by_cases hlt : n ≤ 25
    · by_cases he : no = n
      · rw [if_neg (by omega)]
        have hb : (((no : Nat) : Int) == (n : Int)) = true := by rw [he]; simp
        have HE := Lib.hid he
        clear he
        go_wp2_with (fail)
        refine (hIs.out _ _).mono ?_
        rintro e w1 ⟨rfl, hb1⟩
        go_wp2
        go_roundw
        case rel => exact ⟨n + 1, by go_num, by omega, by omega, by have := HE.out; rw [if_pos (by omega)]; exact int_eq (by omega), hbel.trans (hb1.mono hbs)⟩
        case measure => simp [intOf]; omega
      · have hb : (((no : Nat) : Int) == (n : Int)) = false := by simp; omega
        have HE := Lib.hid he
        clear he
        obtain ⟨q, hq⟩ : ∃ q, Hid (q = if no < n then no else 0) := ⟨_, rfl⟩
        rw [← hq.out]
        go_wp2_with (fail)
        refine (hIs.out _ _).mono ?_
        rintro e w1 ⟨rfl, hb1⟩
        go_wp2
        go_roundw
        case rel => exact ⟨n + 1, by go_num, by omega, by omega, by
          have := HE.out
          rw [hq.out]
          by_cases h : no < n
          · rw [if_pos h, if_pos (by omega)]
          · rw [if_neg h, if_neg (by omega)], hbel.trans (hb1.mono hbs)⟩
        case measure => simp [intOf]; omega
    · rw [if_pos (by omega)]
      have hb : (((no : Nat) : Int) == (0 : Int)) = false := by simp; omega
      go_wp2_with (fail)
      refine (hIs.out _ _).mono ?_
      rintro e w1 ⟨rfl, hb1⟩
      go_wp2
      go_ret
      exact ⟨rfl, hbel.trans (hb1.mono hbs)⟩

theorem Num_errno (no : Nat) (w : World) (h1 : 1 ≤ no) (h2 : no ≤ 25) : Calls Tryz.prog 27 #[errV no] w fun e w' => e = .returned (.int .i64 no) ∧ Below w.heap.size w w' := by
  rw [errV_some (by omega)]
  exact Num_any no _ w h1 h2 ⟨_, _, rfl⟩ fun n w => (Is_errno no n w).mono fun e w' ⟨he, hw⟩ => ⟨he, hw ▸ Below.refl _ _⟩
theorem Num_fault (no : Nat) (line at_ : Int) (w : World) (h1 : 1 ≤ no) (h2 : no ≤ 25) : Calls Tryz.prog 27 #[faultsV no line at_] w fun e w' => e = .returned (.int .i64 no) ∧ Below w.heap.size w w' :=
  Num_any no _ w h1 h2 ⟨_, _, rfl⟩ fun n w => Is_fault no line at_ n w
set_option maxRecDepth 100000 in
theorem Num_nil (w : World) : Calls Tryz.prog 27 #[.nilIface] w fun e w' => e = .returned (.int .i64 0) ∧ Below w.heap.size w w' := by
  go_enter Tryz.func27, Tryz.ntmps27
  go_wp2
  go_ret
  exact ⟨rfl, Below.refl _ _⟩
end Go.Proofs.YtfgpigblnkanpaaGreatDoor
