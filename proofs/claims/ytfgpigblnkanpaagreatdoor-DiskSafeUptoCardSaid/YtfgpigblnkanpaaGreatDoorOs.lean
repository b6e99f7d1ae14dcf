/- The argument of DiskStill, opened. -/
import Derived.Test.YtfgpigblnkanpaaGreatDoorOd
namespace Go.Proofs.YtfgpigblnkanpaaGreatDoor
open Go.RowKit Go.ChangeShapes Go.WideShapes Go.Deep
set_option linter.unusedVariables false

set_option maxRecDepth 100000 in
theorem agg_still {W : World} {r : Reach} {b : Nat} {v : Value} (h : Value.okWide Tryz.prog W r b 53 v) : ∃ cs, v = .agg cs ∧ cs.size = Tryz.prog.cellsOf 53 := by
  unfold Value.okWide at h
  rw [Tryz.underlying53] at h
  obtain ⟨cs, h1, h2, _⟩ := h
  exact ⟨cs, h1, h2⟩
structure StillIn (W : World) (v : Value) (f s k1 k2 : Value) (ss1 ss2 : List Sp) (l1 l2 : List Int) : Prop where
  eq : v = .agg #[f, s, k1, k2]
  hf : StepsAt W f ss1
  hs : StepsAt W s ss2
  o1 : ∀ x ∈ ss1, SpOk x
  o2 : ∀ x ∈ ss2, SpOk x
  n1 : ss1.length ≤ 1048576
  n2 : ss2.length ≤ 1048576
  hi1 : IntsAt W k1 l1
  hi2 : IntsAt W k2 l2
  hk1 : ∃ a n c, k1 = .slice a n c
  hk2 : ∃ a n c, k2 = .slice a n c
set_option maxHeartbeats 2000000 in
set_option maxRecDepth 100000 in
theorem open_still {H : Type} {enc : TypeId × Value → H} {W : World} {r : Reach} {b : Nat} {v : Value} {d : DataW H} {p : List MemPlace} (hv : Value.okWide Tryz.prog W r b 53 v) (h : DataW.Trod enc Tryz.prog W 0 (fun _ => true) true 53 v d p) (hb : Rows.uptoBulk d ≤ 1048576) :
    ∃ f s k1 k2 ss1 ss2 l1 l2, StillIn W v f s k1 k2 ss1 ss2 l1 l2 := by
  obtain ⟨fuel, hfu⟩ := h
  obtain ⟨vcs, rfl, hvsz⟩ := agg_still hv
  have c4 : Tryz.prog.cellsOf 53 = 4 := by kernel_rfl
  have cs1 : Tryz.prog.cellsOf 22 = 1 := by kernel_rfl
  have cf1 : Tryz.prog.cellsOf 26 = 1 := by kernel_rfl
  obtain ⟨xs, n, _, hd0, hl, hlen, hf⟩ := DataW.trod_struct Tryz.underlying53 hfu
  rw [c4] at hl hvsz
  obtain ⟨f, s, k1, k2, rfl⟩ : ∃ f s k1 k2, vcs = #[f, s, k1, k2] := by
    obtain ⟨l⟩ := vcs
    match l, hvsz with
    | [f, s, k1, k2], _ => exact ⟨f, s, k1, k2, rfl⟩
  obtain ⟨y0, y1, y2, y3, rfl⟩ : ∃ a b c d, xs = [a, b, c, d] := by
    match xs, hlen with
    | [a, b, c, d], _ => exact ⟨a, b, c, d, rfl⟩
  have g0 := hf 0 _ rfl
  have g1 := hf 1 _ rfl
  have g2 := hf 2 _ rfl
  have g3 := hf 3 _ rfl
  simp [cs1, cf1, Value.cells] at g0 g1 g2 g3
  simp only [Prod.mk.injEq] at hd0
  obtain ⟨rfl, _⟩ := hd0
  simp only [List.map_cons, List.map_nil, Rows.uptoBulkAll, Rows.uptoBulk] at hb
  obtain ⟨ss1, hs1, o1, n1⟩ := open_stepsB g0 (by omega)
  obtain ⟨ss2, hs2, o2, n2⟩ := open_stepsB g1 (by omega)
  obtain ⟨l1, a1, b1, e1, q1, hi1, _, _⟩ := open_fateB g2 (by omega)
  obtain ⟨l2, a2, b2, e2, q2, hi2, _, _⟩ := open_fateB g3 (by omega)
  exact ⟨f, s, k1, k2, ss1, ss2, l1, l2, rfl, hs1, hs2, o1, o2, n1, n2, hi1, hi2, ⟨_, _, _, q1⟩, ⟨_, _, _, q2⟩⟩
end Go.Proofs.YtfgpigblnkanpaaGreatDoor
