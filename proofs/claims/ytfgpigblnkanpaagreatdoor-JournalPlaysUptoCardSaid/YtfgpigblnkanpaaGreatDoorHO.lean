/- Arguments that are scripts of operations, opened to what the walks ask of them. Arguments that are rows of calls of a journal, opened. -/
import Derived.Test.YtfgpigblnkanpaaGreatDoorGP
import Derived.Test.YtfgpigblnkanpaaGreatDoorRows
import Derived.Deep.SlicePairs
import Derived.ChangeSlices
import Derived.SizedLaws
import Derived.ProofKit
import Derived.ChangeOld
import Derived.Test.YtfgpigblnkanpaaGreatDoorKg
namespace Go.Proofs.YtfgpigblnkanpaaGreatDoor
open Go.RowKit Go.ChangeShapes Go.WideShapes Go.Deep
set_option linter.unusedVariables false
set_option linter.unusedSimpArgs false

theorem bulk_pos {H : Type} (d : DataW H) : 1 ≤ Rows.uptoBulk d := by
  cases d with
  | lit l => cases l <;> simp [Rows.uptoBulk]
  | _ => simp [Rows.uptoBulk]
theorem bulk_len {H : Type} : ∀ ds : List (DataW H), ds.length ≤ Rows.uptoBulkAll ds
  | [] => by simp
  | d :: r => by
    have h1 := bulk_pos d
    have h2 := bulk_len r
    simp only [List.length_cons, Rows.uptoBulkAll]
    omega
theorem bulk_mem {H : Type} {d : DataW H} : ∀ {ds : List (DataW H)}, d ∈ ds → Rows.uptoBulk d ≤ Rows.uptoBulkAll ds
  | x :: r, h => by
    rw [Rows.uptoBulkAll]
    rcases List.mem_cons.1 h with rfl | h
    · omega
    · have := bulk_mem h
      omega
instance : Inhabited Sp := ⟨⟨0, 0, [], [], 0, []⟩⟩
def SpOk (s : Sp) : Prop := s.name.length ≤ 1048576 ∧ s.data.length ≤ 1048576 ∧ s.keep.length ≤ 1048576 ∧ wf64 s.keep ∧ (-9223372036854775808 ≤ s.n ∧ s.n ≤ 9223372036854775807) ∧ (-9223372036854775808 ≤ s.do_ ∧ s.do_ ≤ 9223372036854775807) ∧ (-9223372036854775808 ≤ s.who ∧ s.who ≤ 9223372036854775807)
/-- A slice that reads as this script. -/
def StepsAt (w : World) (v : Value) (ss : List Sp) : Prop := ∃ a cap, v = .slice a ss.length cap ∧ ∀ i s, ss[i]? = some s → ∃ b off ka kn kc, a = some ⟨b, off, none⟩ ∧ (∀ j x, (s.cells (.slice ka kn kc))[j]? = some x → w.cell? ⟨b, off + i * 6 + j, none⟩ = some x) ∧ IntsAt w (.slice ka kn kc) s.keep
section
variable {H : Type} {enc : TypeId × Value → H} {W : World} {fuel : Nat} {held : Bool}
theorem wf_i64 {n : Int} (h : (Lit.int .i64 n).wf = true) : -9223372036854775808 ≤ n ∧ n ≤ 9223372036854775807 := by
  simp [Lit.wf, IntKind.has, IntKind.min, IntKind.max, IntKind.signed, IntKind.bits] at h
  omega
theorem open_intsB {c : Value} {y : DataW H × List MemPlace} (h : DataW.trod enc Tryz.prog W 0 (fun _ => true) held fuel 24 [c] = some y) (hb : Rows.uptoBulk y.1 ≤ 1048576) :
    ∃ l ka kn kc, c = .slice ka kn kc ∧ IntsAt W c l ∧ wf64 l ∧ l.length ≤ 1048576 := by
  rcases open_ints Tryz.underlying24 Tryz.underlying3 (by kernel_rfl) h with ⟨hcs, _⟩ | ⟨a, len, cap, zs, hcs, _, hl, hm, hz, hx, hc, hw⟩
  · simp only [List.cons.injEq, and_true] at hcs
    subst hcs
    exact ⟨[], _, _, _, rfl, IntsAt.nil _ _ _, wf64_nil, by simp⟩
  · simp only [List.cons.injEq, and_true] at hcs
    subst hcs
    rw [if_pos rfl] at hz
    subst hx
    have hlen : (zs.take len).length = len := by rw [List.length_take]; omega
    have hbl : len ≤ 1048576 := by
      simp only [Rows.uptoBulk] at hb
      have := bulk_len (lits (H := H) .i64 (zs.take len))
      have h2 : (lits (H := H) .i64 (zs.take len)).length = len := by unfold lits; rw [List.length_map, hlen]
      omega
    refine ⟨zs.take len, _, _, _, rfl, ?_, fun x hx => wf_i64 (hw x (List.mem_of_mem_take hx)), by omega⟩
    by_cases h0 : len = 0
    · subst h0
      exact Or.inl ⟨by simp, _, _, rfl⟩
    · obtain ⟨b, off, spot⟩ := a
      have hspot : spot = none := by
        have hz := hc 0 (by omega)
        simpa [Addr.add] using World.cell?_spot hz
      subst hspot
      refine Or.inr ⟨b, off, cap, by rw [hlen], by omega, by unfold maxLen at hm; omega, fun k x hx => ?_⟩
      have hk : k < len := by have := (List.getElem?_eq_some_iff.1 hx).1; omega
      have := hc k (by omega)
      rw [add_plain] at this
      rw [this]
      rw [List.getElem?_take_of_lt hk] at hx
      simp [List.getD, hx]
theorem open_fateB {c : Value} {y : DataW H × List MemPlace} (h : DataW.trod enc Tryz.prog W 0 (fun _ => true) held fuel 26 [c] = some y) (hb : Rows.uptoBulk y.1 ≤ 1048576) :
    ∃ l ka kn kc, c = .slice ka kn kc ∧ IntsAt W c l ∧ wf64 l ∧ l.length ≤ 1048576 := by
  obtain ⟨y0, n, rfl, _, h0⟩ := trod_struct1 Tryz.underlying26 h
  simp only [Rows.uptoBulk, Rows.uptoBulkAll] at hb
  have e : Tryz.prog.cellsOf 24 = 1 := by kernel_rfl
  simp only [e, List.drop_zero, List.take_succ_cons, List.take_nil] at h0
  exact open_intsB h0 (by omega)
set_option maxRecDepth 100000 in
theorem open_stepB {cs : List Value} {y : DataW H × List MemPlace} (h : DataW.trod enc Tryz.prog W 0 (fun _ => true) held fuel 36 cs = some y) (hb : Rows.uptoBulk y.1 ≤ 1048576) :
    ∃ s ka kn kc, cs = s.cells (.slice ka kn kc) ∧ IntsAt W (.slice ka kn kc) s.keep ∧ SpOk s := by
  obtain ⟨xs, n, _, rfl, hl, hlen, hf⟩ := DataW.trod_struct Tryz.underlying36 h
  have c6 : Tryz.prog.cellsOf 36 = 6 := by kernel_rfl
  have ci : Tryz.prog.cellsOf 3 = 1 := by kernel_rfl
  have cst : Tryz.prog.cellsOf 9 = 1 := by kernel_rfl
  have cf : Tryz.prog.cellsOf 26 = 1 := by kernel_rfl
  rw [c6] at hl
  match xs, hlen, cs, hl with
  | [y0, y1, y2, y3, y4, y5], _, [v0, v1, v2, v3, v4, v5], _ =>
    have g0 := hf 0 _ rfl
    have g1 := hf 1 _ rfl
    have g2 := hf 2 _ rfl
    have g3 := hf 3 _ rfl
    have g4 := hf 4 _ rfl
    have g5 := hf 5 _ rfl
    simp [ci, cst, cf] at g0 g1 g2 g3 g4 g5
    simp only [Rows.uptoBulk, Rows.uptoBulkAll, List.map_cons, List.map_nil] at hb
    obtain ⟨n0, e0, rfl, k0⟩ := DataW.trod_int Tryz.underlying3 g0
    obtain ⟨n1, e1, rfl, k1⟩ := DataW.trod_int Tryz.underlying3 g1
    obtain ⟨s2, e2, rfl, k2⟩ := DataW.trod_string Tryz.underlying9 g2
    obtain ⟨s3, e3, rfl, k3⟩ := DataW.trod_string Tryz.underlying9 g3
    obtain ⟨n4, e4, rfl, k4⟩ := DataW.trod_int Tryz.underlying3 g4
    obtain ⟨l, ka, kn, kc, rfl, hi, hw, hll⟩ := open_fateB g5 (by omega)
    simp only [List.cons.injEq, and_true] at e0 e1 e2 e3 e4
    subst e0 e1 e2 e3 e4
    simp only [Rows.uptoBulk] at hb
    refine ⟨⟨n0, n1, s2.data.toList, s3.data.toList, n4, l⟩, ka, kn, kc, by unfold Sp.cells; simp [str_of, strV], hi, ?_⟩
    exact ⟨by show s2.data.toList.length ≤ _; omega, by show s3.data.toList.length ≤ _; omega, hll, hw, wf_i64 k4, wf_i64 k0, wf_i64 k1⟩
theorem open_stepsB {v : Value} {y : DataW H × List MemPlace} (h : DataW.trod enc Tryz.prog W 0 (fun _ => true) held fuel 22 [v] = some y) (hb : Rows.uptoBulk y.1 ≤ 1048576) :
    ∃ ss, StepsAt W v ss ∧ (∀ s ∈ ss, SpOk s) ∧ ss.length ≤ 1048576 := by
  rcases open_slice Tryz.underlying22 h with ⟨hcs, _⟩ | ⟨a, len, cap, m, n, D, Pl, hcs, _, hl, hm, hmm, rfl, hx⟩
  · simp only [List.cons.injEq, and_true] at hcs
    subst hcs
    exact ⟨[], ⟨none, 0, rfl, fun i s hs => by simp at hs⟩, fun s hs => by simp at hs, by simp⟩
  · simp only [List.cons.injEq, and_true] at hcs
    subst hcs
    have hlm : len ≤ m := by rw [hmm]; split <;> omega
    have c6 : Tryz.prog.cellsOf 36 = 6 := by kernel_rfl
    simp only [Rows.uptoBulk] at hb
    have hbl := bulk_len ((List.range len).map D)
    rw [List.length_map, List.length_range] at hbl
    have each : ∀ i, i < len → ∃ q : Sp × Option Addr × Nat × Nat, (∃ cs', W.cells? 0 (a.add (i * 6)) 6 = some cs' ∧ cs' = q.1.cells (.slice q.2.1 q.2.2.1 q.2.2.2)) ∧ IntsAt W (.slice q.2.1 q.2.2.1 q.2.2.2) q.1.keep ∧ SpOk q.1 := by
      intro i hi
      obtain ⟨cs', h1, h2⟩ := hx i (by omega)
      rw [c6] at h1
      have := bulk_mem (List.mem_map.2 ⟨i, List.mem_range.2 hi, rfl⟩ : D i ∈ (List.range len).map D)
      obtain ⟨s, ka, kn, kc, e, hi2, ho⟩ := open_stepB h2 (by show Rows.uptoBulk (D i) ≤ _; omega)
      exact ⟨(s, ka, kn, kc), ⟨cs', h1, e⟩, hi2, ho⟩
    obtain ⟨q, hq⟩ := choose_lt each
    refine ⟨(List.range len).map fun i => (q i).1, ⟨some a, cap, by simp, fun i s hs => ?_⟩, fun s hs => ?_, by simp; omega⟩
    · have hi : i < len := by
        obtain ⟨h, _⟩ := List.getElem?_eq_some_iff.1 hs
        simpa using h
      have hs' : s = (q i).1 := by
        rw [List.getElem?_map, List.getElem?_range hi] at hs
        simpa using hs.symm
      subst hs'
      obtain ⟨⟨cs', h1, h2⟩, h3, h4⟩ := hq i hi
      obtain ⟨_, hlen, hcell⟩ := World.cells?_some h1
      obtain ⟨b, off, spot⟩ := a
      have hspot : spot = none := by
        obtain ⟨⟨cs0, h10, h20⟩, _, _⟩ := hq 0 (by omega)
        obtain ⟨_, _, hcell0⟩ := World.cells?_some h10
        have hz := hcell0 0 (by omega)
        rw [h20] at hz
        simpa [Addr.add] using World.cell?_spot hz
      subst hspot
      refine ⟨b, off, _, _, _, rfl, fun j x hj => ?_, h3⟩
      have hj6 : j < 6 := by
        have := (List.getElem?_eq_some_iff.1 hj).1
        simpa [Sp.cells] using this
      have := hcell j hj6
      rw [add_plain, add_plain, h2, hj] at this
      exact this
    · obtain ⟨i, hi, rfl⟩ := List.mem_map.1 hs
      exact (hq i (List.mem_range.1 hi)).2.2
end
end Go.Proofs.YtfgpigblnkanpaaGreatDoor

namespace Go.Proofs.YtfgpigblnkanpaaGreatDoor
open Go.RowKit Go.ChangeShapes Go.WideShapes Go.Deep
set_option linter.unusedVariables false
set_option linter.unusedSimpArgs false

instance : Inhabited Ac := ⟨⟨0, [], 0, []⟩⟩
section
variable {H : Type} {enc : TypeId × Value → H} {W : World} {fuel : Nat} {held : Bool}
set_option maxRecDepth 100000 in
theorem open_actB {cs : List Value} {y : DataW H × List MemPlace} (h : DataW.trod enc Tryz.prog W 0 (fun _ => true) held fuel 81 cs = some y) (hb : Rows.uptoBulk y.1 ≤ 1048576) :
    ∃ s ka kn kc, cs = Ac.cells s (.slice ka kn kc) ∧ IntsAt W (.slice ka kn kc) s.keep ∧ AcOk s := by
  obtain ⟨xs, n, _, rfl, hl, hlen, hf⟩ := DataW.trod_struct Tryz.underlying81 h
  have c4 : Tryz.prog.cellsOf 81 = 4 := by kernel_rfl
  have ci : Tryz.prog.cellsOf 3 = 1 := by kernel_rfl
  have cst : Tryz.prog.cellsOf 9 = 1 := by kernel_rfl
  have cf : Tryz.prog.cellsOf 24 = 1 := by kernel_rfl
  rw [c4] at hl
  match xs, hlen, cs, hl with
  | [y0, y1, y2, y3], _, [v0, v1, v2, v3], _ =>
    have g0 := hf 0 _ rfl
    have g1 := hf 1 _ rfl
    have g2 := hf 2 _ rfl
    have g3 := hf 3 _ rfl
    simp [ci, cst, cf] at g0 g1 g2 g3
    simp only [Rows.uptoBulk, Rows.uptoBulkAll, List.map_cons, List.map_nil] at hb
    obtain ⟨n0, e0, rfl, k0⟩ := DataW.trod_int Tryz.underlying3 g0
    obtain ⟨s1, e1, rfl, k1⟩ := DataW.trod_string Tryz.underlying9 g1
    obtain ⟨n2, e2, rfl, k2⟩ := DataW.trod_int Tryz.underlying3 g2
    obtain ⟨l, ka, kn, kc, rfl, hi, hw, hll⟩ := open_intsB g3 (by omega)
    simp only [List.cons.injEq, and_true] at e0 e1 e2
    subst e0 e1 e2
    simp only [Rows.uptoBulk] at hb
    refine ⟨⟨n0, s1.data.toList, n2, l⟩, ka, kn, kc, by unfold Ac.cells; simp [str_of, strV], hi, ?_⟩
    exact ⟨by show s1.data.toList.length ≤ _; omega, hll, hw, wf_i64 k2, wf_i64 k0⟩
theorem open_actsB {v : Value} {y : DataW H × List MemPlace} (h : DataW.trod enc Tryz.prog W 0 (fun _ => true) held fuel 73 [v] = some y) (hb : Rows.uptoBulk y.1 ≤ 1048576) :
    ∃ ss, ActsAt W v ss ∧ (∀ s ∈ ss, AcOk s) ∧ ss.length ≤ 1048576 := by
  rcases open_slice Tryz.underlying73 h with ⟨hcs, _⟩ | ⟨a, len, cap, m, n, D, Pl, hcs, _, hl, hm, hmm, rfl, hx⟩
  · simp only [List.cons.injEq, and_true] at hcs
    subst hcs
    exact ⟨[], ⟨none, 0, rfl, fun i s hs => by simp at hs⟩, fun s hs => by simp at hs, by simp⟩
  · simp only [List.cons.injEq, and_true] at hcs
    subst hcs
    have hlm : len ≤ m := by rw [hmm]; split <;> omega
    have c4 : Tryz.prog.cellsOf 81 = 4 := by kernel_rfl
    simp only [Rows.uptoBulk] at hb
    have hbl := bulk_len ((List.range len).map D)
    rw [List.length_map, List.length_range] at hbl
    have each : ∀ i, i < len → ∃ q : Ac × Option Addr × Nat × Nat, (∃ cs', W.cells? 0 (a.add (i * 4)) 4 = some cs' ∧ cs' = q.1.cells (.slice q.2.1 q.2.2.1 q.2.2.2)) ∧ IntsAt W (.slice q.2.1 q.2.2.1 q.2.2.2) q.1.keep ∧ AcOk q.1 := by
      intro i hi
      obtain ⟨cs', h1, h2⟩ := hx i (by omega)
      rw [c4] at h1
      have := bulk_mem (List.mem_map.2 ⟨i, List.mem_range.2 hi, rfl⟩ : D i ∈ (List.range len).map D)
      obtain ⟨s, ka, kn, kc, e, hi2, ho⟩ := open_actB h2 (by show Rows.uptoBulk (D i) ≤ _; omega)
      exact ⟨(s, ka, kn, kc), ⟨cs', h1, e⟩, hi2, ho⟩
    obtain ⟨q, hq⟩ := choose_lt each
    refine ⟨(List.range len).map fun i => (q i).1, ⟨some a, cap, by simp, fun i s hs => ?_⟩, fun s hs => ?_, by simp; omega⟩
    · have hi : i < len := by
        obtain ⟨h, _⟩ := List.getElem?_eq_some_iff.1 hs
        simpa using h
      have hs' : s = (q i).1 := by
        rw [List.getElem?_map, List.getElem?_range hi] at hs
        simpa using hs.symm
      subst hs'
      obtain ⟨⟨cs', h1, h2⟩, h3, h4⟩ := hq i hi
      obtain ⟨_, hlen, hcell⟩ := World.cells?_some h1
      obtain ⟨b, off, spot⟩ := a
      have hspot : spot = none := by
        obtain ⟨⟨cs0, h10, h20⟩, _, _⟩ := hq 0 (by omega)
        obtain ⟨_, _, hcell0⟩ := World.cells?_some h10
        have hz := hcell0 0 (by omega)
        rw [h20] at hz
        simpa [Addr.add] using World.cell?_spot hz
      subst hspot
      refine ⟨b, off, _, _, _, rfl, fun j x hj => ?_, h3⟩
      have hj4 : j < 4 := by
        have := (List.getElem?_eq_some_iff.1 hj).1
        simpa [Ac.cells] using this
      have := hcell j hj4
      rw [add_plain, add_plain, h2, hj] at this
      exact this
    · obtain ⟨i, hi, rfl⟩ := List.mem_map.1 hs
      exact (hq i (List.mem_range.1 hi)).2.2
end
set_option maxRecDepth 100000 in
theorem open_acts_arg {H : Type} {enc : TypeId × Value → H} {W : World} {r : Reach} {b : Nat} {v : Value} {d : DataW H} {p : List MemPlace} (hv : Value.okWide Tryz.prog W r b 73 v) (h : DataW.Trod enc Tryz.prog W 0 (fun _ => true) true 73 v d p) (hb : Rows.uptoBulk d ≤ 1048576) :
    ∃ ss, ActsAt W v ss ∧ (∀ x ∈ ss, AcOk x) ∧ ss.length ≤ 1048576 := by
  obtain ⟨a0, len0, cap0, rfl⟩ := okWide_slice Tryz.underlying73 hv
  obtain ⟨fuel, hf⟩ := h
  exact open_actsB hf hb
end Go.Proofs.YtfgpigblnkanpaaGreatDoor
