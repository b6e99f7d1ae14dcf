/- An argument that is a slice of pairs, opened to what the walks ask of it. -/
import Derived.Test.YtifdibkpaeocfaaDoorPk
import Derived.Test.YtifdibkpaeocfaaDoorProg
import Derived.Deep.SlicePairs
import Derived.SizedLaws
import Derived.ProofKit
import Derived.ChangeOld
namespace Go.Proofs.YtifdibkpaeocfaaDoor
open Go.RowKit Go.ChangeShapes Go.WideShapes Go.Deep

theorem weightsAll_mem {H : Type} {Q : Program} {e : TypeId} {d : DataW H} {n : Nat} (hn : n ∈ d.weights Q e) : ∀ {ds : List (DataW H)}, d ∈ ds → n ∈ DataW.weightsAll Q e ds
  | x :: ds, h => by
    rw [DataW.weightsAll, List.mem_append]
    rcases List.mem_cons.1 h with rfl | h
    · exact Or.inl hn
    · exact Or.inr (weightsAll_mem hn h)
theorem bytesPair : Tryd.prog.bytesOf 50 = 32 := by kernel_rfl
def strOfD {H : Type} : DataW H → List UInt8
  | .lit (.string b) => b
  | _ => []
set_option maxRecDepth 100000 in
theorem open_pairsL {H : Type} {enc : TypeId × Value → H} {W : World} {r : Reach} {b0 : Nat} {v : Value} {d : DataW H} {p : List MemPlace} (hval : Value.okWide Tryd.prog W r b0 22 v) (h : DataW.Trod enc Tryd.prog W 0 (fun _ => true) true 22 v d p) (hw : ∀ n ∈ d.weights Tryd.prog 22, n ≤ reachBytes) :
    ∃ l : List PairL, PairsAt W v l ∧ PairsOk l ∧ l.length * 32 ≤ 140737488351232 := by
  obtain ⟨a0, len0, cap0, rfl⟩ := okWide_slice Tryd.underlying22 hval
  obtain ⟨fuel, hf⟩ := h
  rcases open_slice_pairs Tryd.underlying22 Tryd.underlying50 (by kernel_rfl) rfl rfl (by kernel_rfl) (by kernel_rfl) hf with ⟨hcs, _⟩ | ⟨a, len, cap, m, n, V0, V1, D0, D1, P0, P1, hcs, _, hl, _, hmm, hx, hc⟩
  · simp [Value.cells] at hcs
    obtain ⟨rfl, rfl, rfl⟩ := hcs
    exact ⟨[], ⟨none, 0, rfl, fun i p hp => by simp at hp⟩, fun p hp => by simp at hp, by simp⟩
  · simp [Value.cells] at hcs
    obtain ⟨rfl, rfl, rfl⟩ := hcs
    have hlm : len0 ≤ m := by rw [hmm]; split <;> omega
    simp only [Prod.mk.injEq] at hx
    obtain ⟨rfl, _⟩ := hx
    have key : ∀ i, i < len0 → W.cell? (a.add (i * 2)) = some (strV (strOfD (D0 i))) ∧ W.cell? (a.add (i * 2 + 1)) = some (strV (strOfD (D1 i))) ∧ D0 i = .lit (.string (strOfD (D0 i))) ∧ D1 i = .lit (.string (strOfD (D1 i))) := by
      intro i hi
      obtain ⟨h0, h1, t0, t1⟩ := hc i (by omega)
      obtain ⟨s0, e0, y0, _⟩ := DataW.trod_string Tryd.underlying9 t0
      obtain ⟨s1, e1, y1, _⟩ := DataW.trod_string Tryd.underlying9 t1
      simp only [Prod.mk.injEq] at y0 y1
      simp only [List.cons.injEq, and_true] at e0 e1
      rw [y0.1, y1.1]
      refine ⟨?_, ?_, rfl, rfl⟩
      · rw [h0, e0]; simp [strOfD, str_of]
      · rw [h1, e1]; simp [strOfD, str_of]
    refine ⟨(List.range len0).map fun i => (strOfD (D0 i), strOfD (D1 i)), ⟨some a, cap0, by simp, ?_⟩, ?_, ?_⟩
    · intro i q hq
      have hi : i < len0 := by
        obtain ⟨h, _⟩ := List.getElem?_eq_some_iff.1 hq
        simpa using h
      have hq' : q = (strOfD (D0 i), strOfD (D1 i)) := by
        rw [List.getElem?_map, List.getElem?_range hi] at hq
        simpa using hq.symm
      subst hq'
      obtain ⟨h0, h1, _, _⟩ := key i hi
      obtain ⟨b, off, spot⟩ := a
      have hspot : spot = none := by
        have hz := (key 0 (by omega)).1
        simpa [Addr.add] using World.cell?_spot hz
      subst hspot
      rw [add_plain] at h0 h1
      exact ⟨b, off, rfl, h0, h1⟩
    · intro q hq
      obtain ⟨i, hi, rfl⟩ := List.mem_map.1 hq
      rw [List.mem_range] at hi
      obtain ⟨_, _, d0, d1⟩ := key i hi
      have hmem : (DataW.agg [D0 i, D1 i]) ∈ (List.range len0).map fun i => DataW.agg [D0 i, D1 i] := List.mem_map.2 ⟨i, List.mem_range.2 hi, rfl⟩
      have g : ∀ n ∈ (DataW.agg [D0 i, D1 i]).weights Tryd.prog 50, n ≤ reachBytes := by
        intro n hn
        refine hw n ?_
        rw [DataW.weights, Tryd.underlying22]
        simp only [List.mem_cons, List.mem_append]
        exact Or.inr (Or.inl (weightsAll_mem hn hmem))
      have k0 := g (strOfD (D0 i)).length (by rw [d0, DataW.weights, Tryd.underlying50]; simp [DataW.weightsEach, DataW.weights, strOfD])
      have k1 := g (strOfD (D1 i)).length (by rw [d1, DataW.weights, Tryd.underlying50]; simp [DataW.weightsEach, DataW.weights, strOfD])
      simp only [reachBytes] at k0 k1
      exact ⟨by simp only; omega, by simp only; omega⟩
    · have k := hw _ (by rw [DataW.weights, Tryd.underlying22]; exact List.mem_cons_self)
      rw [bytesPair] at k
      simp only [reachBytes, List.length_map, List.length_range] at k
      simp only [List.length_map, List.length_range]
      omega
end Go.Proofs.YtifdibkpaeocfaaDoor
