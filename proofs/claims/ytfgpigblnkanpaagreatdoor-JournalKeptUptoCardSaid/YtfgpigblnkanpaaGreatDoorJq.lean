/- What a journal does on a disk that has its file alone. Plain data. -/
import Derived.Test.YtfgpigblnkanpaaGreatDoorJp
namespace Go.Proofs.YtfgpigblnkanpaaGreatDoor
set_option linter.unusedVariables false
set_option linter.unusedSimpArgs false

theorem jhandN_lt : ∀ nm : Nm, nlt nm (jhandN nm) = true := fun nm => by
  rw [nlt_eq]
  simp only [decide_eq_true_eq]
  unfold jhandN
  induction nm with
  | nil => exact List.Lex.nil
  | cons a l ih => exact List.Lex.cons ih
theorem name_ok {nm : Nm} (h : 1 ≤ nm.length ∧ nm.length ≤ 199) : badName nm = false ∧ badName (jhandN nm) = false := by
  unfold badName jhandN
  refine ⟨?_, ?_⟩
  · cases nm with
    | nil => simp at h
    | cons a l => simp at h ⊢; omega
  · cases nm with
    | nil => simp at h
    | cons a l => simp at h ⊢; omega
theorem jrest_lone {d : Dk} {nm : Nm} {x : List UInt8} {R : Nat} (h : Lone d nm x R) (l : List (List UInt8)) : ∃ d', jrest d nm l = ⟨d', l, 0⟩ ∧ Lone d' nm x R := by
  obtain ⟨h1, h2⟩ := h.sync
  obtain ⟨h3, h4⟩ := h2.flush
  exact ⟨_, by unfold jrest; rw [if_neg (by rw [h1]; simp), h3], h4⟩
theorem jstart_new (R : Nat) (hR : R ≤ 268435456) {nm : Nm} (hn : 1 ≤ nm.length ∧ nm.length ≤ 199) : ∃ d', jstart (dnew R) nm = ⟨d', [], 0⟩ ∧ Lone d' nm [] R := by
  obtain ⟨h1, h2⟩ := lone_new R hR (name_ok hn).1
  obtain ⟨d', h3, h4⟩ := jrest_lone h2 []
  refine ⟨d', ?_, h4⟩
  have e : ∀ m, dread (dnew R) m = ([], 18) := fun m => rfl
  unfold jstart
  rw [e, if_neg (by simp)]
  unfold jfill
  rw [e, if_pos rfl, if_neg (by rw [h1]; simp), h3]
theorem jcut_lone {d : Dk} {nm : Nm} {x s : List UInt8} {R : Nat} (h : Lone d nm x R) (hn : 1 ≤ nm.length ∧ nm.length ≤ 199) (hs : x.length + s.length ≤ R) : ∃ d', jcut d nm s = (d', 0) ∧ Lone d' nm s R := by
  obtain ⟨n1, n2⟩ := name_ok hn
  obtain ⟨a1, b1⟩ := h.hand (jhandN_lt nm) n2
  obtain ⟨a2, b2⟩ := b1.write (s := s) (by simpa using hs)
  obtain ⟨a3, b3⟩ := b2.sync
  obtain ⟨a4, b4⟩ := b3.laid n1
  rw [List.nil_append] at b4
  refine ⟨_, ?_, b4⟩
  unfold jcut
  rw [if_neg (by rw [a1]; simp), if_neg (by rw [a2]; simp), if_neg (by rw [a3]; simp), a4]
  unfold jclean
  rw [if_neg (by simp)]
theorem jstart_lone {d : Dk} {nm : Nm} {x : List UInt8} {R : Nat} (h : Lone d nm x R) (hn : 1 ≤ nm.length ∧ nm.length ≤ 199) (hs : x.length + (jbegin x).2 ≤ R) : ∃ d', jstart d nm = ⟨d', (jbegin x).1, 0⟩ ∧ Lone d' nm (x.take (jbegin x).2) R := by
  have hne := nlt_ne (jhandN_lt nm)
  have hle := (jbegin_le x.length x (Nat.le_refl _)).1
  unfold jstart
  rw [h.miss hne, if_neg (by simp)]
  unfold jfill
  rw [h.read, if_neg (by simp), if_pos rfl]
  by_cases hlt : (jbegin x).2 < x.length
  · obtain ⟨d1, e1, h1⟩ := jcut_lone h hn (s := x.take (jbegin x).2) (by rw [List.length_take]; omega)
    obtain ⟨d2, e2, h2⟩ := jrest_lone h1 (jbegin x).1
    exact ⟨d2, by simp only; rw [if_pos hlt, e1, if_neg (by simp), e2], h2⟩
  · obtain ⟨d2, e2, h2⟩ := jrest_lone h (jbegin x).1
    refine ⟨d2, by simp only; rw [if_neg hlt, e2], ?_⟩
    rw [List.take_of_length_le (by omega)]
    exact h2
theorem jappend_lone {d : Dk} {nm : Nm} {x r : List UInt8} {R n : Nat} (h : Lone d nm x R) (hr : r.length ≤ 16777216) (hs : x.length + (jframe r).length ≤ R) : ∃ d', jappend d nm n false r = ⟨d', 0, false, n + 1⟩ ∧ Lone d' nm (x ++ jframe r) R := by
  obtain ⟨a1, b1⟩ := h.write hs
  obtain ⟨a2, b2⟩ := b1.sync
  refine ⟨_, ?_, b2⟩
  unfold jappend
  rw [if_neg (by simp), if_neg (by omega), if_neg (by rw [a1]; simp), if_neg (by rw [a1]; simp), if_neg (by rw [a2]; simp)]
theorem DkB.small {d : Dk} {N : Nat} (h : DkB d N) : Small d := fun i => by
  by_cases hi : i < d.files.length
  · have := h.data _ (fat_mem hi)
    have := h.room
    omega
  · rw [fat_out (by omega)]; simp
def total (l : List (List UInt8)) : Nat := (l.map List.length).sum
theorem jframe_le (r : List UInt8) (hr : r.length ≤ 16777216) : (jframe r).length ≤ r.length + 14 := by
  rw [jframe_len]
  have := uintL_len (n := r.length + 1) (by omega)
  omega
theorem jframes_le : ∀ l : List (List UInt8), (∀ r ∈ l, r.length ≤ 16777216) → (jframes l).length ≤ total l + 14 * l.length
  | [], _ => by simp [jframes, total]
  | r :: l, h => by
    rw [jframes_cons, List.length_append]
    have h1 := jframe_le r (h r List.mem_cons_self)
    have h2 := jframes_le l (fun x hx => h x (List.mem_cons_of_mem _ hx))
    simp only [total, List.map_cons, List.sum_cons, List.length_cons] at h2 ⊢
    omega
theorem total_mem : ∀ {l : List (List UInt8)} {r : List UInt8}, r ∈ l → r.length ≤ total l
  | x :: l, r, h => by
    simp only [total, List.map_cons, List.sum_cons]
    rcases List.mem_cons.1 h with rfl | h
    · omega
    · have := total_mem h
      simp only [total] at this
      omega
theorem total_take (l : List (List UInt8)) (k : Nat) : total (l.take k) ≤ total l := by
  induction l generalizing k with
  | nil => simp [total]
  | cons a l ih =>
    cases k with
    | zero => simp [total]
    | succ k =>
      have := ih k
      simp only [total, List.take_succ_cons, List.map_cons, List.sum_cons] at this ⊢
      omega
end Go.Proofs.YtfgpigblnkanpaaGreatDoor
