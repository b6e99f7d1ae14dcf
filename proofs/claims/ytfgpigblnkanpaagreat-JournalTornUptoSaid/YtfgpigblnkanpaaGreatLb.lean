/- The walks of what the statements on disks share: a change, what a disk shows. -/
import Derived.Test.YtfgpigblnkanpaaGreatLa
namespace Go.Proofs.YtfgpigblnkanpaaGreat
set_option linter.unusedVariables false
open Go.RowKit Go.Maps Go.Shelf

/-- What a disk shows, in memory of its own. -/
def ShownPost (d : Dk) (w : World) (e : Ending) (w' : World) : Prop :=
  ∃ u v, e = .returned (.tuple #[.agg #[u, v], .bool (!d.off)]) ∧ (d.off = false → RowAt w' u ((dshown d).1.map strV) ∧ RowAt w' v ((dshown d).2.map strV)) ∧ (∀ k, u.ownBlock = some k → w.heap.size ≤ k ∧ k < w'.heap.size) ∧ (∀ k, v.ownBlock = some k → w.heap.size ≤ k ∧ k < w'.heap.size) ∧ Below w.heap.size w w'
theorem dlist_all {d : Dk} (h : d.off = false) : dlist d [] = (dshown d).1 := by
  unfold dlist dshown tnames
  rw [if_neg (by simp [h])]
  simp
theorem dread_at {d : Dk} (h : d.off = false) (hr : Rise d.now) (k : Nat) (hk : k < d.now.length) : dread d (d.now[k].1) = ((fat d.files d.now[k].2).data, 0) := by
  unfold dread
  rw [if_neg (by simp [h])]
  have : tget d.now (d.now[k].1) = some d.now[k].2 := tget_of_mem hr (List.getElem_mem hk)
  rw [this]
theorem row_below {w w' : World} {B size n : Nat} {e : TypeId} {v : Value} {xs : List Value} (h : w.ownsRow B e size v n xs) (hb : Below w.heap.size w w') : w'.ownsRow B e size v n xs :=
  h.kept (row := none) ⟨hb.os, hb.tape, hb.output, hb.size, fun i hi _ => hb.block i hi⟩ (by cases v.ownBlock <;> simp)
theorem dread_shown {d : Dk} (h : d.off = false) (hr : Rise d.now) {k : Nat} {n : Nm} (hn : (dshown d).1[k]? = some n) : ∃ x, (dshown d).2[k]? = some x ∧ dread d n = (x, 0) := by
  unfold dshown tnames at hn ⊢
  simp only [List.getElem?_map] at hn ⊢
  cases hk : d.now[k]? with
  | none => rw [hk] at hn; simp at hn
  | some y =>
    rw [hk] at hn
    obtain ⟨hlt, rfl⟩ := List.getElem?_eq_some_iff.1 hk
    obtain rfl : d.now[k].1 = n := by simpa using hn
    exact ⟨_, rfl, dread_at h hr k hlt⟩
end Go.Proofs.YtfgpigblnkanpaaGreat
