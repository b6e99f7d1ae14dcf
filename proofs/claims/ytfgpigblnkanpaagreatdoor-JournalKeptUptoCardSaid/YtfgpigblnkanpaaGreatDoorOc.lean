/- Arguments that are rows of calls of a journal, opened. -/
import Derived.Test.YtfgpigblnkanpaaGreatDoorKg
import Derived.Test.YtfgpigblnkanpaaGreatDoorGO
namespace Go.Proofs.YtfgpigblnkanpaaGreatDoor
open Go.RowKit Go.ChangeShapes Go.WideShapes Go.Deep
set_option linter.unusedVariables false
set_option linter.unusedSimpArgs false

instance : Inhabited Ac := ⟨⟨0, [], 0, []⟩⟩
section
variable {H : Type} {enc : TypeId × Value → H} {W : World} {fuel : Nat} {held : Bool}
set_option maxRecDepth 100000 in
theorem open_actB {cs : List Value} {y : DataW H × List MemPlace} (h : DataW.trod enc Tryz.prog W 0 (fun _ => true) held fuel 81 cs = some y) (hb : Rows.uptoBulk y.1 ≤ 1048576) :
    ∃ s ka kn kc, cs = Ac.cells s (.slice ka kn kc) ∧ IntsAt W (.slice ka kn kc) s.keep ∧ AcOk s := by
  obtain ⟨xs, n, _, rfl, hl, hlen, hf⟩ := DataW.trod_struct Tryz.underlying81 h
  have c4 : Tryz.prog.cellsOf 81 = 4 := by kernel_rfl
  have ci : Tryz.prog.cellsOf 3 = 1 := by kernel_rfl
  have cst : Tryz.prog.cellsOf 9 = 1 := by kernel_rfl
  have cf : Tryz.prog.cellsOf 24 = 1 := by kernel_rfl
  rw [c4] at hl
  match xs, hlen, cs, hl with
  | [y0, y1, y2, y3], _, [v0, v1, v2, v3], _ =>
    have g0 := hf 0 _ rfl
    have g1 := hf 1 _ rfl
    have g2 := hf 2 _ rfl
    have g3 := hf 3 _ rfl
    simp [ci, cst, cf] at g0 g1 g2 g3
    simp only [Rows.uptoBulk, Rows.uptoBulkAll, List.map_cons, List.map_nil] at hb
    obtain ⟨n0, e0, rfl, k0⟩ := DataW.trod_int Tryz.underlying3 g0
    obtain ⟨s1, e1, rfl, k1⟩ := DataW.trod_string Tryz.underlying9 g1
    obtain ⟨n2, e2, rfl, k2⟩ := DataW.trod_int Tryz.underlying3 g2
    obtain ⟨l, ka, kn, kc, rfl, hi, hw, hll⟩ := open_intsB g3 (by omega)
    simp only [List.cons.injEq, and_true] at e0 e1 e2
    subst e0 e1 e2
    simp only [Rows.uptoBulk] at hb
    refine ⟨⟨n0, s1.data.toList, n2, l⟩, ka, kn, kc, by unfold Ac.cells; simp [str_of, strV], hi, ?_⟩
    exact ⟨by show s1.data.toList.length ≤ _; omega, hll, hw, wf_i64 k2, wf_i64 k0⟩
theorem open_actsB {v : Value} {y : DataW H × List MemPlace} (h : DataW.trod enc Tryz.prog W 0 (fun _ => true) held fuel 73 [v] = some y) (hb : Rows.uptoBulk y.1 ≤ 1048576) :
    ∃ ss, ActsAt W v ss ∧ (∀ s ∈ ss, AcOk s) ∧ ss.length ≤ 1048576 := by
  rcases open_slice Tryz.underlying73 h with ⟨hcs, _⟩ | ⟨a, len, cap, m, n, D, Pl, hcs, _, hl, hm, hmm, rfl, hx⟩
  · simp only [List.cons.injEq, and_true] at hcs
    subst hcs
    exact ⟨[], ⟨none, 0, rfl, fun i s hs => by simp at hs⟩, fun s hs => by simp at hs, by simp⟩
  · simp only [List.cons.injEq, and_true] at hcs
    subst hcs
    have hlm : len ≤ m := by rw [hmm]; split <;> omega
    have c4 : Tryz.prog.cellsOf 81 = 4 := by kernel_rfl
    simp only [Rows.uptoBulk] at hb
    have hbl := bulk_len ((List.range len).map D)
    rw [List.length_map, List.length_range] at hbl
    have each : ∀ i, i < len → ∃ q : Ac × Option Addr × Nat × Nat, (∃ cs', W.cells? 0 (a.add (i * 4)) 4 = some cs' ∧ cs' = q.1.cells (.slice q.2.1 q.2.2.1 q.2.2.2)) ∧ IntsAt W (.slice q.2.1 q.2.2.1 q.2.2.2) q.1.keep ∧ AcOk q.1 := by
      intro i hi
      obtain ⟨cs', h1, h2⟩ := hx i (by omega)
      rw [c4] at h1
      have := bulk_mem (List.mem_map.2 ⟨i, List.mem_range.2 hi, rfl⟩ : D i ∈ (List.range len).map D)
      obtain ⟨s, ka, kn, kc, e, hi2, ho⟩ := open_actB h2 (by show Rows.uptoBulk (D i) ≤ _; omega)
      exact ⟨(s, ka, kn, kc), ⟨cs', h1, e⟩, hi2, ho⟩
    obtain ⟨q, hq⟩ := choose_lt each
    refine ⟨(List.range len).map fun i => (q i).1, ⟨some a, cap, by simp, fun i s hs => ?_⟩, fun s hs => ?_, by simp; omega⟩
    · have hi : i < len := by
        obtain ⟨h, _⟩ := List.getElem?_eq_some_iff.1 hs
        simpa using h
      have hs' : s = (q i).1 := by
        rw [List.getElem?_map, List.getElem?_range hi] at hs
        simpa using hs.symm
      subst hs'
      obtain ⟨⟨cs', h1, h2⟩, h3, h4⟩ := hq i hi
      obtain ⟨_, hlen, hcell⟩ := World.cells?_some h1
      obtain ⟨b, off, spot⟩ := a
      have hspot : spot = none := by
        obtain ⟨⟨cs0, h10, h20⟩, _, _⟩ := hq 0 (by omega)
        obtain ⟨_, _, hcell0⟩ := World.cells?_some h10
        have hz := hcell0 0 (by omega)
        rw [h20] at hz
        simpa [Addr.add] using World.cell?_spot hz
      subst hspot
      refine ⟨b, off, _, _, _, rfl, fun j x hj => ?_, h3⟩
      have hj4 : j < 4 := by
        have := (List.getElem?_eq_some_iff.1 hj).1
        simpa [Ac.cells] using this
      have := hcell j hj4
      rw [add_plain, add_plain, h2, hj] at this
      exact this
    · obtain ⟨i, hi, rfl⟩ := List.mem_map.1 hs
      exact (hq i (List.mem_range.1 hi)).2.2
end
set_option maxRecDepth 100000 in
theorem open_acts_arg {H : Type} {enc : TypeId × Value → H} {W : World} {r : Reach} {b : Nat} {v : Value} {d : DataW H} {p : List MemPlace} (hv : Value.okWide Tryz.prog W r b 73 v) (h : DataW.Trod enc Tryz.prog W 0 (fun _ => true) true 73 v d p) (hb : Rows.uptoBulk d ≤ 1048576) :
    ∃ ss, ActsAt W v ss ∧ (∀ x ∈ ss, AcOk x) ∧ ss.length ≤ 1048576 := by
  obtain ⟨a0, len0, cap0, rfl⟩ := okWide_slice Tryz.underlying73 hv
  obtain ⟨fuel, hf⟩ := h
  exact open_actsB hf hb
end Go.Proofs.YtfgpigblnkanpaaGreatDoor
