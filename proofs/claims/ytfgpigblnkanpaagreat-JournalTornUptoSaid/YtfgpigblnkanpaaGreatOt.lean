/- An argument that is a slice of texts, opened. -/
import Derived.Test.YtfgpigblnkanpaaGreatProg
import Derived.Test.YtfgpigblnkanpaaGreatTx
import Derived.Deep.Slices
import Derived.SizedLaws
import Derived.ProofKit
import Derived.ChangeOld
namespace Go.Proofs.YtfgpigblnkanpaaGreat
open Go.RowKit Go.ChangeShapes Go.WideShapes Go.Deep
set_option linter.unusedVariables false

theorem weightsAll_memT {H : Type} {Q : Program} {e : TypeId} {d : DataW H} {n : Nat} (hn : n ∈ d.weights Q e) : ∀ {ds : List (DataW H)}, d ∈ ds → n ∈ DataW.weightsAll Q e ds
  | x :: ds, h => by
    rw [DataW.weightsAll, List.mem_append]
    rcases List.mem_cons.1 h with rfl | h
    · exact Or.inl hn
    · exact Or.inr (weightsAll_memT hn h)
set_option maxRecDepth 100000 in
theorem open_textsL {H : Type} {enc : TypeId × Value → H} {W : World} {r : Reach} {b0 : Nat} {v : Value} {d : DataW H} {p : List MemPlace} (hval : Value.okWide Tryz.prog W r b0 22 v) (h : DataW.Trod enc Tryz.prog W 0 (fun _ => true) true 22 v d p) (hw : ∀ n ∈ d.weights Tryz.prog 22, n ≤ reachBytes) :
    ∃ (l : List (List UInt8)) (a : Option Addr) (c : Nat), v = .slice a l.length c ∧ ShapeT W v l ∧ (∀ x ∈ l, x.length ≤ 140737488355328) ∧ l.length ≤ c ∧ l.length ≤ 9223372036854775807 := by
  obtain ⟨a0, len0, cap0, rfl⟩ := okWide_slice Tryz.underlying22 hval
  obtain ⟨fuel, hf⟩ := h
  have hc1 : Tryz.prog.cellsOf 9 = 1 := by kernel_rfl
  rcases open_slice1 Tryz.underlying22 hc1 hf with ⟨hcs, _⟩ | ⟨a, len, cap, m, n, V, D, Pl, hcs, _, hl, hm, hmm, hx, hc⟩
  · simp [Value.cells] at hcs
    obtain ⟨rfl, rfl, rfl⟩ := hcs
    refine ⟨[], none, 0, rfl, ⟨none, 0, rfl, fun k x hx => by simp at hx⟩, ?_, Nat.le_refl _, Nat.zero_le _⟩
    intro x hx
    cases hx
  · simp [Value.cells] at hcs
    obtain ⟨rfl, rfl, rfl⟩ := hcs
    have hlm : len0 ≤ m := by rw [hmm]; split <;> omega
    simp only [Prod.mk.injEq] at hx
    obtain ⟨rfl, _⟩ := hx
    have each : ∀ i, i < len0 → ∃ q : List UInt8, W.cell? (a.add i) = some (strV q) ∧ D i = .lit (.string q) := by
      intro i hi
      obtain ⟨h1, h2⟩ := hc i (by omega)
      obtain ⟨s, e0, y0, _⟩ := DataW.trod_string Tryz.underlying9 h2
      simp only [Prod.mk.injEq] at y0
      simp only [List.cons.injEq, and_true] at e0
      refine ⟨s.data.toList, ?_, y0.1⟩
      rw [h1, e0]
      simp [strV, str_of]
    obtain ⟨q, hq⟩ := choose_lt each
    have hml : maxLen = 9223372036854775807 := rfl
    refine ⟨(List.range len0).map q, some a, cap0, by simp, ⟨some a, cap0, by simp, ?_⟩, ?_, by simpa using hl, by simp only [List.length_map, List.length_range]; omega⟩
    · intro k x hx
      have hk : k < len0 := by
        have := (List.getElem?_eq_some_iff.1 hx).1
        simpa using this
      rw [List.getElem?_map, List.getElem?_range hk] at hx
      simp only [Option.map_some, Option.some.injEq] at hx
      subst hx
      obtain ⟨b, off, spot⟩ := a
      have hspot : spot = none := by
        have hz := (hq 0 (by omega)).1
        simpa [Addr.add] using World.cell?_spot hz
      subst hspot
      have := (hq k hk).1
      rw [add_plain] at this
      exact ⟨b, off, rfl, this⟩
    · intro x hx
      obtain ⟨i, hi, rfl⟩ := List.mem_map.1 hx
      rw [List.mem_range] at hi
      have hmem : D i ∈ (List.range len0).map D := List.mem_map.2 ⟨i, List.mem_range.2 hi, rfl⟩
      have k0 := hw (q i).length (by
        rw [DataW.weights, Tryz.underlying22]
        simp only [List.mem_cons, List.mem_append]
        exact Or.inr (Or.inl (weightsAll_memT (d := D i) (by rw [(hq i hi).2, DataW.weights]; simp) hmem)))
      simp only [reachBytes] at k0
      omega
end Go.Proofs.YtfgpigblnkanpaaGreat
