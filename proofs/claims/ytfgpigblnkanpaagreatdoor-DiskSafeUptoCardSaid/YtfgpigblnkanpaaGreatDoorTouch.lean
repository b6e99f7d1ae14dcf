/- DiskSafe: the marks of what is touched. Plain data. -/
import Derived.Test.YtfgpigblnkanpaaGreatDoorLa
import Derived.Test.YtfgpigblnkanpaaGreatDoorDkFirm
namespace Go.Proofs.YtfgpigblnkanpaaGreatDoor

/-- Is this name one of a step's? -/
def hit (s : Sp) (n : Nm) : Prop := n = s.name ∨ s.do_ = 4 ∧ n = s.data
theorem hit_not {d : Dk} {s : Sp} {n : Nm} (h2 : s.do_ ≠ 2) (h3 : s.do_ ≠ 3) (h : ¬ hit s n) : ¬ otouch n (odOf s) := by
  have hn : ¬ s.name = n := fun e => h (Or.inl e.symm)
  unfold odOf
  by_cases e1 : s.do_ = 1
  · rw [if_pos e1]; exact hn
  · rw [if_neg e1, if_neg h2, if_neg h3]
    by_cases e4 : s.do_ = 4
    · rw [if_pos e4]
      rintro (e | e)
      · exact hn e
      · exact h (Or.inr ⟨e4, e.symm⟩)
    · rw [if_neg e4]
      by_cases e5 : s.do_ = 5
      · rw [if_pos e5]; exact hn
      · rw [if_neg e5]; exact fun h => h
theorem hit_free {s : Sp} (n : Nm) (h : s.do_ = 2 ∨ s.do_ = 3) : ¬ otouch n (odOf s) := by
  unfold odOf
  rcases h with e | e
  · rw [if_neg (by omega), if_pos e]; exact fun h => h
  · rw [if_neg (by omega), if_neg (by omega), if_pos e]; exact fun h => h
/-- The marks with the first k of them turned. -/
structure Marks (s : Sp) (ns : List Nm) (T T' : List Bool) (k : Nat) : Prop where
  len : T'.length = ns.length
  at_ : ∀ (i : Nat) (n : Nm), ns[i]? = some n → T'[i]? = some false → T[i]? = some false ∧ (i < k → ¬ hit s n)
theorem Marks.start (s : Sp) {ns : List Nm} {T : List Bool} (h : T.length = ns.length) : Marks s ns T T 0 := ⟨h, fun i n _ ht => ⟨ht, fun hi => by omega⟩⟩
theorem Marks.step {s : Sp} {ns : List Nm} {T T' : List Bool} {k : Nat} {n : Nm} {t b : Bool} (h : Marks s ns T T' k) (hn : ns[k]? = some n) (ht : T'[k]? = some t) (hb : b = false → t = false ∧ ¬ hit s n) : Marks s ns T (T'.set k b) (k + 1) := by
  refine ⟨by rw [List.length_set]; exact h.len, fun i m hm hi => ?_⟩
  rw [List.getElem?_set] at hi
  by_cases e : k = i
  · subst e
    rw [if_pos rfl] at hi
    have hkl : k < T'.length := (List.getElem?_eq_some_iff.1 ht).1
    rw [if_pos hkl] at hi
    obtain ⟨h1, h2⟩ := hb (Option.some.inj hi)
    rw [hn] at hm
    cases hm
    exact ⟨(h.at_ k n hn (by rw [ht, h1])).1, fun _ => h2⟩
  · rw [if_neg e] at hi
    obtain ⟨h1, h2⟩ := h.at_ i m hm hi
    exact ⟨h1, fun hk => h2 (by omega)⟩
theorem Marks.done {d : Dk} {s : Sp} {ns : List Nm} {ds : List (List UInt8)} {T T' : List Bool} (h : Marks s ns T T' ns.length) (hu : Untouched d ns ds T) (hk : DkOk d) (hc : Calm d) (h2 : s.do_ ≠ 2) (h3 : s.do_ ≠ 3) : Untouched (ddo d (odOf s)).1 ns ds T' :=
  hu.do hk hc _ fun k n hn hT => by
    obtain ⟨a, b⟩ := h.at_ k n hn hT
    exact ⟨a, fun _ => hit_not (d := d) h2 h3 (b (List.getElem?_eq_some_iff.1 hn).1)⟩
theorem Untouched.free {d : Dk} {s : Sp} {ns : List Nm} {ds : List (List UInt8)} {T : List Bool} (hu : Untouched d ns ds T) (hk : DkOk d) (hc : Calm d) (h : (ddo d (odOf s)).2 ≠ 0 ∨ s.do_ = 2 ∨ s.do_ = 3) : Untouched (ddo d (odOf s)).1 ns ds T :=
  hu.do hk hc _ fun k n hn hT => ⟨hT, fun hz => by
    rcases h with h | h
    · exact absurd hz h
    · exact hit_free n h⟩
end Go.Proofs.YtfgpigblnkanpaaGreatDoor
