/- The walk of the numbers of a fate, one by one. -/
import Derived.Test.YtfgpigblnkanpaaGreatDwY
namespace Go.Proofs.YtfgpigblnkanpaaGreat
open Go.RowKit Go.Maps Go.Shelf

/-- A slice that reads as these integers. -/
def IntsAt (w : World) (v : Value) (l : List Int) : Prop :=
  (l = [] ∧ ∃ a cap, v = .slice a 0 cap) ∨ ∃ b off cap, v = .slice (some ⟨b, off, none⟩) l.length cap ∧ l.length ≤ cap ∧ cap ≤ 9223372036854775807 ∧ ∀ k x, l[k]? = some x → w.cell? ⟨b, off + k, none⟩ = some (.int .i64 x)
/-- The block that a row of numbers uses: none, where there is no number. -/
def usesOf (v : Value) (l : List Int) : Option Nat := if l = [] then none else v.ownBlock
theorem usesOf_own {v : Value} {l : List Int} {k : Nat} (h : usesOf v l = some k) : v.ownBlock = some k := by
  unfold usesOf at h
  split at h
  · cases h
  · exact h
theorem usesOf_nil {v : Value} {k : Nat} (h : usesOf v [] = some k) : False := by simp [usesOf] at h
theorem IntsAt.same {w w' : World} {v : Value} {l : List Int} (h : IntsAt w v l) (hs : ∀ k, usesOf v l = some k → w'.heap[k]? = w.heap[k]?) : IntsAt w' v l := by
  rcases h with h | ⟨b, off, cap, rfl, h1, h2, h3⟩
  · exact Or.inl h
  · refine Or.inr ⟨b, off, cap, rfl, h1, h2, fun k x hx => (World.cell?_of_block (a := ⟨b, off + k, none⟩) (hs b ?_)).trans (h3 k x hx)⟩
    cases l with
    | nil => simp at hx
    | cons y l => simp [usesOf, Value.ownBlock]
theorem IntsAt.nil (w : World) (a : Option Addr) (cap : Nat) : IntsAt w (.slice a 0 cap) [] := Or.inl ⟨rfl, a, cap, rfl⟩
theorem grown_set1 (w : World) (g i : Nat) (v : Value) : w.grownBy (w.setCell ⟨g, i, none⟩ v) (some g) :=
  ⟨rfl, rfl, rfl, by simp [World.setCell], fun k _ hne => Below.heap_setCell _ _ _ _ (fun e => hne (by rw [e]))⟩
def NextPost (kb : Nat) (v : Value) (l : List Int) (w : World) (e : Ending) (w' : World) : Prop :=
  e = .returned (.int .i64 (l.headD 0)) ∧ ∃ v', Blk w' kb [v'] 40 ∧ IntsAt w' v' l.tail ∧ (∀ k, usesOf v' l.tail = some k → usesOf v l = some k) ∧ w.grownBy w' (some kb)

set_option maxHeartbeats 1000000 in
set_option maxRecDepth 100000 in
theorem dkNext_any (w : World) (kb : Nat) (v : Value) (l : List Int) (hb : Blk w kb [v] 40) (h : IntsAt w v l) (hne : ∀ k, usesOf v l = some k → k ≠ kb) : Calls Tryz.prog 47 #[.pointer (some ⟨kb, 0, none⟩)] w (NextPost kb v l w) := by
  have k0 := hb.cell 0
  have fz := hb.free 0
  simp only [List.getElem?_cons_zero] at k0
  cases l with
  | nil =>
    rcases h with ⟨_, a, cap, rfl⟩ | ⟨b, off, cap, rfl, h1, h2, h3⟩
    · have HB := Lib.hid hb
      clear hb
      go_enter Tryz.func47, Tryz.ntmps47
      go_wp2
      go_ret
      exact ⟨rfl, _, HB.out, IntsAt.nil _ _ _, fun k hk => hk, grown_refl _ _⟩
    · have HB := Lib.hid hb
      clear hb h3
      simp only [List.length_nil] at k0 h1
      go_enter Tryz.func47, Tryz.ntmps47
      go_wp2
      go_ret
      exact ⟨rfl, _, HB.out, IntsAt.nil _ _ _, fun k hk => hk, grown_refl _ _⟩
  | cons x l =>
    rcases h with ⟨h, _⟩ | ⟨b, off, cap, rfl, h1, h2, h3⟩
    · cases h
    · have c0 := h3 0 x rfl
      simp only [List.length_cons] at k0 h1
      rw [Nat.add_zero] at c0
      have hbk : b ≠ kb := hne b (by simp [usesOf, Value.ownBlock])
      have hq : ((l.length : Int) + 1 == 0) = false := by simp; omega
      have H3 : Hid (∀ (u : Value) k y, l[k]? = some y → (w.setCell ⟨kb, 0, none⟩ u).cell? ⟨b, off + 1 + k, none⟩ = some (.int .i64 y)) := fun u k y hy => by
        have := h3 (k + 1) y (by simpa using hy)
        rw [show off + 1 + k = off + (k + 1) by omega]
        exact (World.cell?_of_block (w := w) (a := ⟨b, off + (k + 1), none⟩) (Below.heap_setCell _ _ _ _ hbk)).trans this
      have HB := Lib.hid hb
      clear hb h3 hne
      by_cases hcap : cap = 1
      · subst hcap
        obtain rfl : l = [] := List.eq_nil_of_length_eq_zero (by omega)
        go_enter Tryz.func47, Tryz.ntmps47
        go_wp2
        go_ret
        exact ⟨rfl, _, HB.out.set 0 _, Or.inl ⟨rfl, _, _, rfl⟩, fun k hk => by have := usesOf_own hk; simpa [usesOf, Value.ownBlock] using this, grown_set1 _ _ _ _⟩
      · have hc1 : 1 < cap := by omega
        go_enter Tryz.func47, Tryz.ntmps47
        go_wp2
        go_ret
        exact ⟨rfl, _, HB.out.set 0 _, Or.inr ⟨b, off + 1, cap - 1, rfl, by simp; omega, by omega, fun k y hy => H3.out _ k y hy⟩, fun k hk => by have := usesOf_own hk; simpa [usesOf, Value.ownBlock] using this, grown_set1 _ _ _ _⟩
end Go.Proofs.YtfgpigblnkanpaaGreat
