/- The argument of DiskSafe, opened. -/
import Derived.Test.YtfgpigblnkanpaaGreatDoorOs
namespace Go.Proofs.YtfgpigblnkanpaaGreatDoor
open Go.RowKit Go.ChangeShapes Go.WideShapes Go.Deep
set_option linter.unusedVariables false

/-- A slice that reads as these fates. -/
def FatesAt (w : World) (v : Value) (ls : List (List Int)) : Prop := ∃ a cap, v = .slice a ls.length cap ∧ ∀ i l, ls[i]? = some l → ∃ b off ka kn kc, a = some ⟨b, off, none⟩ ∧ w.cell? ⟨b, off + i, none⟩ = some (.slice ka kn kc) ∧ IntsAt w (.slice ka kn kc) l
section
variable {H : Type} {enc : TypeId × Value → H} {W : World} {fuel : Nat} {held : Bool}
theorem open_fatesB {v : Value} {y : DataW H × List MemPlace} (h : DataW.trod enc Tryz.prog W 0 (fun _ => true) held fuel 23 [v] = some y) (hb : Rows.uptoBulk y.1 ≤ 1048576) :
    ∃ ls, FatesAt W v ls ∧ ls.length ≤ 1048576 := by
  rcases open_slice1 Tryz.underlying23 (by kernel_rfl) h with ⟨hcs, _⟩ | ⟨a, len, cap, m, n, V, D, Pl, hcs, _, hl, hm, hmm, rfl, hx⟩
  · simp only [List.cons.injEq, and_true] at hcs
    subst hcs
    exact ⟨[], ⟨none, 0, rfl, fun i s hs => by simp at hs⟩, by simp⟩
  · simp only [List.cons.injEq, and_true] at hcs
    subst hcs
    have hlm : len ≤ m := by rw [hmm]; split <;> omega
    simp only [Rows.uptoBulk] at hb
    have hbl := bulk_len ((List.range len).map D)
    rw [List.length_map, List.length_range] at hbl
    have each : ∀ i, i < len → ∃ q : List Int × Option Addr × Nat × Nat, W.cell? (a.add i) = some (.slice q.2.1 q.2.2.1 q.2.2.2) ∧ IntsAt W (.slice q.2.1 q.2.2.1 q.2.2.2) q.1 := by
      intro i hi
      obtain ⟨h1, h2⟩ := hx i (by omega)
      have := bulk_mem (List.mem_map.2 ⟨i, List.mem_range.2 hi, rfl⟩ : D i ∈ (List.range len).map D)
      obtain ⟨l, ka, kn, kc, e, hi2, _, _⟩ := open_fateB h2 (by show Rows.uptoBulk (D i) ≤ _; omega)
      rw [e] at h1 hi2
      exact ⟨(l, ka, kn, kc), h1, hi2⟩
    obtain ⟨q, hq⟩ := choose_lt each
    refine ⟨(List.range len).map fun i => (q i).1, ⟨some a, cap, by simp, fun i l hs => ?_⟩, by simp; omega⟩
    have hi : i < len := by
      obtain ⟨h, _⟩ := List.getElem?_eq_some_iff.1 hs
      simpa using h
    have hs' : l = (q i).1 := by
      rw [List.getElem?_map, List.getElem?_range hi] at hs
      simpa using hs.symm
    subst hs'
    obtain ⟨h1, h2⟩ := hq i hi
    obtain ⟨b, off, spot⟩ := a
    have hspot : spot = none := by
      have hz := (hq 0 (by omega)).1
      simpa [Addr.add] using World.cell?_spot hz
    subst hspot
    rw [add_plain] at h1
    exact ⟨b, off, _, _, _, rfl, h1, h2⟩
end
set_option maxRecDepth 100000 in
theorem agg_safe {W : World} {r : Reach} {b : Nat} {v : Value} (h : Value.okWide Tryz.prog W r b 28 v) : ∃ cs, v = .agg cs ∧ cs.size = Tryz.prog.cellsOf 28 := by
  unfold Value.okWide at h
  rw [Tryz.underlying28] at h
  obtain ⟨cs, h1, h2, _⟩ := h
  exact ⟨cs, h1, h2⟩
structure SafeIn (W : World) (v : Value) (f t s k : Value) (ss1 ss2 : List Sp) (ls : List (List Int)) (l : List Int) : Prop where
  eq : v = .agg #[f, t, s, k]
  hf : StepsAt W f ss1
  ht : FatesAt W t ls
  hs : StepsAt W s ss2
  o1 : ∀ x ∈ ss1, SpOk x
  o2 : ∀ x ∈ ss2, SpOk x
  n1 : ss1.length ≤ 1048576
  n2 : ss2.length ≤ 1048576
  n3 : ls.length ≤ 1048576
  hi : IntsAt W k l
  hk : ∃ a n c, k = .slice a n c
set_option maxHeartbeats 2000000 in
set_option maxRecDepth 100000 in
theorem open_safe {H : Type} {enc : TypeId × Value → H} {W : World} {r : Reach} {b : Nat} {v : Value} {d : DataW H} {p : List MemPlace} (hv : Value.okWide Tryz.prog W r b 28 v) (h : DataW.Trod enc Tryz.prog W 0 (fun _ => true) true 28 v d p) (hb : Rows.uptoBulk d ≤ 1048576) :
    ∃ f t s k ss1 ss2 ls l, SafeIn W v f t s k ss1 ss2 ls l := by
  obtain ⟨fuel, hfu⟩ := h
  obtain ⟨vcs, rfl, hvsz⟩ := agg_safe hv
  have c4 : Tryz.prog.cellsOf 28 = 4 := by kernel_rfl
  have cs1 : Tryz.prog.cellsOf 22 = 1 := by kernel_rfl
  have cs2 : Tryz.prog.cellsOf 23 = 1 := by kernel_rfl
  have cf1 : Tryz.prog.cellsOf 26 = 1 := by kernel_rfl
  obtain ⟨xs, n, _, hd0, hl, hlen, hf⟩ := DataW.trod_struct Tryz.underlying28 hfu
  rw [c4] at hl hvsz
  obtain ⟨f, t, s, k, rfl⟩ : ∃ f t s k, vcs = #[f, t, s, k] := by
    obtain ⟨l⟩ := vcs
    match l, hvsz with
    | [f, t, s, k], _ => exact ⟨f, t, s, k, rfl⟩
  obtain ⟨y0, y1, y2, y3, rfl⟩ : ∃ a b c d, xs = [a, b, c, d] := by
    match xs, hlen with
    | [a, b, c, d], _ => exact ⟨a, b, c, d, rfl⟩
  have g0 := hf 0 _ rfl
  have g1 := hf 1 _ rfl
  have g2 := hf 2 _ rfl
  have g3 := hf 3 _ rfl
  simp [cs1, cs2, cf1, Value.cells] at g0 g1 g2 g3
  simp only [Prod.mk.injEq] at hd0
  obtain ⟨rfl, _⟩ := hd0
  simp only [List.map_cons, List.map_nil, Rows.uptoBulkAll, Rows.uptoBulk] at hb
  obtain ⟨ss1, hs1, o1, n1⟩ := open_stepsB g0 (by omega)
  obtain ⟨ls, ht, n3⟩ := open_fatesB g1 (by omega)
  obtain ⟨ss2, hs2, o2, n2⟩ := open_stepsB g2 (by omega)
  obtain ⟨l, a1, b1, e1, q1, hi1, _, _⟩ := open_fateB g3 (by omega)
  exact ⟨f, t, s, k, ss1, ss2, ls, l, rfl, hs1, ht, hs2, o1, o2, n1, n2, n3, hi1, ⟨_, _, _, q1⟩⟩
end Go.Proofs.YtfgpigblnkanpaaGreatDoor
