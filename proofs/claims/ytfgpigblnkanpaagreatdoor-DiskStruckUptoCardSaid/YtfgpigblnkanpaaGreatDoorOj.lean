/- Arguments that are rows of steps, and fates, opened. -/
import Derived.Test.YtfgpigblnkanpaaGreatDoorOd
namespace Go.Proofs.YtfgpigblnkanpaaGreatDoor
open Go.RowKit Go.ChangeShapes Go.WideShapes Go.Deep
set_option linter.unusedVariables false

set_option maxRecDepth 100000 in
theorem open_steps_arg {H : Type} {enc : TypeId × Value → H} {W : World} {r : Reach} {b : Nat} {v : Value} {d : DataW H} {p : List MemPlace} (hv : Value.okWide Tryz.prog W r b 22 v) (h : DataW.Trod enc Tryz.prog W 0 (fun _ => true) true 22 v d p) (hb : Rows.uptoBulk d ≤ 1048576) :
    ∃ ss, StepsAt W v ss ∧ (∀ x ∈ ss, SpOk x) ∧ ss.length ≤ 1048576 := by
  obtain ⟨a0, len0, cap0, rfl⟩ := okWide_slice Tryz.underlying22 hv
  obtain ⟨fuel, hf⟩ := h
  exact open_stepsB hf hb
set_option maxRecDepth 100000 in
theorem agg_fate {W : World} {r : Reach} {b : Nat} {v : Value} (h : Value.okWide Tryz.prog W r b 26 v) : ∃ cs, v = .agg cs ∧ cs.size = Tryz.prog.cellsOf 26 := by
  unfold Value.okWide at h
  rw [Tryz.underlying26] at h
  obtain ⟨cs, h1, h2, _⟩ := h
  exact ⟨cs, h1, h2⟩
set_option maxRecDepth 100000 in
theorem open_fate_arg {H : Type} {enc : TypeId × Value → H} {W : World} {r : Reach} {b : Nat} {v : Value} {d : DataW H} {p : List MemPlace} (hv : Value.okWide Tryz.prog W r b 26 v) (h : DataW.Trod enc Tryz.prog W 0 (fun _ => true) true 26 v d p) (hb : Rows.uptoBulk d ≤ 1048576) :
    ∃ f l, v = .agg #[f] ∧ (∃ a n c, f = .slice a n c) ∧ IntsAt W f l ∧ l.length ≤ 1048576 ∧ wf64 l := by
  obtain ⟨vcs, rfl, hvsz⟩ := agg_fate hv
  have cf1 : Tryz.prog.cellsOf 26 = 1 := by kernel_rfl
  rw [cf1] at hvsz
  obtain ⟨k, rfl⟩ : ∃ k, vcs = #[k] := by
    obtain ⟨l⟩ := vcs
    match l, hvsz with
    | [k], _ => exact ⟨k, rfl⟩
  obtain ⟨fuel, hf⟩ := h
  obtain ⟨l, a1, b1, e1, q1, hi1, h1, h2⟩ := open_fateB hf hb
  exact ⟨k, l, rfl, ⟨_, _, _, q1⟩, hi1, h2, h1⟩
end Go.Proofs.YtfgpigblnkanpaaGreatDoor
