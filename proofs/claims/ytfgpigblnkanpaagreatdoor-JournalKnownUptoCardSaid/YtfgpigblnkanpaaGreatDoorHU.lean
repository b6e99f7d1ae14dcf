/- Both sides of a journal's play in memory: the program's disk (with a journal, or without one), and the document's. A journal's play: do two disks have the same files? -/
import Derived.Test.YtfgpigblnkanpaaGreatDoorHM
import Derived.Test.YtfgpigblnkanpaaGreatDoorHT
import Derived.Test.YtfgpigblnkanpaaGreatDoorHP
import Derived.Test.YtfgpigblnkanpaaGreatDoorGF
import Derived.Test.YtfgpigblnkanpaaGreatDoorGP
import Derived.Test.YtfgpigblnkanpaaGreatDoorHL
namespace Go.Proofs.YtfgpigblnkanpaaGreatDoor
open Go.RowKit Go.Maps Go.Shelf
set_option linter.unusedVariables false
set_option linter.unusedSimpArgs false

theorem lt_of_same {w w' : World} {k : Nat} (hk : k < w.heap.size) (h : w'.heap[k]? = w.heap[k]?) : k < w'.heap.size := by
  rw [Array.getElem?_eq_getElem hk] at h
  exact (Array.getElem?_eq_some_iff.1 h).1
/-- A journal: its block, how many records, is it closed. -/
abbrev Jo := Option (Nat × Nat × Bool)
def Jo.blk (jo : Jo) : List Nat := (jo.map (·.1)).toList
/-- The program's side; the blocks K are none of its own. -/
def Ps (w0 : World) (jo : Jo) (g : Nat) (d : Dk) (N : Nat) (nm : Nm) (w : World) (K A : List Nat) : Prop :=
  match jo with
  | none => Mine w0 w K A g d N
  | some (jb, n, c) => Jl w0 w K A jb g d N nm n c
/-- The document's side, within the blocks A. -/
def Qs (qo : Jo) (r : Nat) (d : Dk) (N : Nat) (nm : Nm) (w : World) (A : List Nat) : Prop :=
  match qo with
  | none => Rd2 w A r d N
  | some (q, n, c) => QJ w A q r d N nm n c
section
variable {w0 w w' : World} {jo qo : Jo} {g r : Nat} {d d' : Dk} {N N' : Nat} {nm : Nm} {K K' A B B' : List Nat}
theorem Mine.other (h : Mine w0 w K A g d N) (hs : Stp B B' w w') (hB : ∀ k ∈ B, k ∈ K ∧ w0.heap.size ≤ k) (hK : ∀ k ∈ K', (k ∈ K ∨ k ∈ B') ∧ k < w'.heap.size) : Mine w0 w' K' A g d N := by
  refine ⟨h.hd.other hs (fun k hk hm => (h.far k (hB k hm).1).2 hk), h.base, h.bel.trans (hs.below (fun k hk => (hB k hk).2) h.bel.size), fun k hk => ⟨(hK k hk).2, fun hm => ?_⟩⟩
  rcases (hK k hk).1 with h1 | h1
  · exact (h.far k h1).2 hm
  · rcases hs.inn k h1 with h2 | h2
    · exact (h.far k (hB k h2).1).2 hm
    · have := h.hd.lt k hm; omega
theorem Jl.other {jb n : Nat} {c : Bool} (h : Jl w0 w K A jb g d N nm n c) (hs : Stp B B' w w') (hB : ∀ k ∈ B, k ∈ K ∧ w0.heap.size ≤ k) (hK : ∀ k ∈ K', (k ∈ K ∨ k ∈ B') ∧ k < w'.heap.size) : Jl w0 w' K' A jb g d N nm n c := by
  have hjB : jb ∉ B := fun hm => h.out (hB jb hm).1
  refine ⟨h.m.other hs (fun k hk => ⟨List.mem_cons_of_mem _ (hB k hk).1, (hB k hk).2⟩) (fun k hk => ?_), h.j.same (hs.block jb h.j.lt hjB), h.base, fun hm => ?_, h.len⟩
  · rcases List.mem_cons.1 hk with rfl | hk
    · exact ⟨Or.inl List.mem_cons_self, Nat.lt_of_lt_of_le h.j.lt hs.size⟩
    · exact ⟨(hK k hk).1.imp (List.mem_cons_of_mem _) id, (hK k hk).2⟩
  · rcases (hK jb hm).1 with h1 | h1
    · exact h.out h1
    · rcases hs.inn jb h1 with h2 | h2
      · exact hjB h2
      · have := h.j.lt; omega
theorem Ps.bel (h : Ps w0 jo g d N nm w K A) : Below w0.heap.size w0 w := by
  match jo, h with
  | none, h => exact Mine.bel h
  | some (jb, n, c), h => exact (Jl.m h).bel
theorem Ps.mine (h : Ps w0 jo g d N nm w K A) : Mine w0 w (jo.blk ++ K) A g d N := by
  match jo, h with
  | none, h => exact h
  | some (jb, n, c), h => exact Jl.m h
theorem Ps.op (h : Ps w0 jo g d N nm w K A) (ht : MineTo w0 (jo.blk ++ K) w g d' N' w') : (∃ A', Ps w0 jo g d' N' nm w' K A') ∧ ∀ k ∈ K, w'.heap[k]? = w.heap[k]? := by
  match jo, h with
  | none, h => exact ht
  | some (jb, n, c), h => exact Jl.op h ht
theorem Ps.below (h : Ps w0 jo g d N nm w K A) (hb : Below w.heap.size w w') : Ps w0 jo g d N nm w' K A := by
  match jo, h with
  | none, h => exact Mine.below h hb
  | some (jb, n, c), h => exact Jl.below h hb
theorem Ps.mono (h : Ps w0 jo g d N nm w K A) (hm : N ≤ N') : Ps w0 jo g d N' nm w K A := by
  match jo, h with
  | none, h => exact Mine.mono h hm
  | some (jb, n, c), h => exact Jl.mono h hm
theorem Ps.other (h : Ps w0 jo g d N nm w K A) (hs : Stp B B' w w') (hB : ∀ k ∈ B, k ∈ K ∧ w0.heap.size ≤ k) (hK : ∀ k ∈ K', (k ∈ K ∨ k ∈ B') ∧ k < w'.heap.size) : Ps w0 jo g d N nm w' K' A := by
  match jo, h with
  | none, h => exact Mine.other h hs hB hK
  | some (jb, n, c), h => exact Jl.other h hs hB hK
theorem Ps.far (h : Ps w0 jo g d N nm w K A) : ∀ k ∈ K, k < w.heap.size := fun k hk => (h.mine.far k (List.mem_append_right _ hk)).1
theorem Ps.less (h : Ps w0 jo g d N nm w K A) (hK : ∀ k ∈ K', k ∈ K) : Ps w0 jo g d N nm w K' A :=
  h.other (B := []) (B' := []) (Stp.refl _ _) (fun k hk => by cases hk) (fun k hk => ⟨Or.inl (hK k hk), h.far k (hK k hk)⟩)
theorem Ps.add (h : Ps w0 jo g d N nm w K A) (hb : Below w.heap.size w w') (M : List Nat) (hM : ∀ k ∈ M, w.heap.size ≤ k ∧ k < w'.heap.size) : Ps w0 jo g d N nm w' (M ++ K) A :=
  h.other (B := []) (B' := M) (Stp.of_below hb fun k hk => Or.inr (hM k hk).1) (fun k hk => by cases hk) (fun k hk => by
    rcases List.mem_append.1 hk with h1 | h1
    · exact ⟨Or.inr h1, (hM k h1).2⟩
    · exact ⟨Or.inl h1, Nat.lt_of_lt_of_le (h.far k h1) hb.size⟩)
theorem Ps.set (h : Ps w0 jo g d N nm w K A) (a : Addr) (ha : a.block ∈ K) (hb : w0.heap.size ≤ a.block) (v : Value) : Ps w0 jo g d N nm (w.setCell a v) K A := by
  match jo, h with
  | none, h => exact Mine.set h a ha hb v
  | some (jb, n, c), h => exact Jl.setK h ha hb v
theorem Qs.lt (h : Qs qo r d N nm w A) : ∀ k ∈ A, k < w.heap.size := by
  match qo, h with
  | none, h => exact Rd2.lt h
  | some (q, n, c), h => exact QJ.lt h
theorem Rd2.same (h : Rd2 w A r d N) (hs : ∀ k ∈ A, w'.heap[k]? = w.heap[k]?) : Rd2 w' A r d N := by
  obtain ⟨fv, nv, sv, pv, kv, h1, h2, h3, h4⟩ := h
  exact ⟨fv, nv, sv, pv, kv, h1.kept (fun k hk => hs k (h3 k hk)), h2, h3, fun k hk => lt_of_same (h4 k hk) (hs k hk)⟩
theorem QJ.same {q n : Nat} {c : Bool} (h : QJ w A q r d N nm n c) (hs : ∀ k ∈ A, w'.heap[k]? = w.heap[k]?) : QJ w' A q r d N nm n c := by
  obtain ⟨A1, h1, h2, h3, h4, h5, h6⟩ := h
  exact ⟨A1, h1.same fun k hk => hs k (h4 k hk), h2.same (hs q h5), h3, h4, h5, fun k hk => lt_of_same (h6 k hk) (hs k hk)⟩
theorem Qs.same (h : Qs qo r d N nm w A) (hs : ∀ k ∈ A, w'.heap[k]? = w.heap[k]?) : Qs qo r d N nm w' A := by
  match qo, h with
  | none, h => exact Rd2.same h hs
  | some (q, n, c), h => exact QJ.same h hs
theorem Qs.below (h : Qs qo r d N nm w A) (hb : Below w.heap.size w w') : Qs qo r d N nm w' A := h.same fun k hk => hb.block k (h.lt k hk)
theorem Qs.mono (h : Qs qo r d N nm w A) (hm : N ≤ N') : Qs qo r d N' nm w A := by
  match qo, h with
  | none, h => exact Rd2.mono h hm
  | some (q, n, c), h => exact QJ.mono h hm
/-- Behind a call of the document's side. -/
def QsTo (qo : Jo) (r : Nat) (d' : Dk) (N' : Nat) (nm : Nm) (A : List Nat) (w w' : World) : Prop := ∃ A', Qs qo r d' N' nm w' A' ∧ Stp A A' w w'
theorem Qs.call {f : FuncId} {args : Array Value} {E : Ending → Prop} (h : Qs qo r d N nm w A) (hc : ∀ A1, Rd2 w A1 r d N → Calls Tryz.prog f args w fun e w' => E e ∧ Rd2To r d' N' A1 w w') : Calls Tryz.prog f args w fun e w' => E e ∧ QsTo qo r d' N' nm A w w' := by
  match qo, h with
  | none, h => exact (hc A h).mono fun e w' hp => hp
  | some (q, n, c), h =>
    obtain ⟨A1, h1, h2, h3, h4, h5, h6⟩ := h
    exact (hc A1 h1).mono fun e w' hp => ⟨hp.1, QJ.op h2 h3 h4 h5 hp.2⟩
theorem Qs.rd (h : Qs qo r d N nm w A) : ∃ A1, Rd2 w A1 r d N ∧ ∀ k ∈ A1, k ∈ A := by
  match qo, h with
  | none, h => exact ⟨A, h, fun k hk => hk⟩
  | some (q, n, c), h =>
    obtain ⟨A1, h1, h2, h3, h4, h5, h6⟩ := h
    exact ⟨A1, h1, h4⟩
end
/-- Both sides; the blocks M are none of theirs. -/
def Py (w0 w : World) (M : List Nat) (jo : Jo) (g : Nat) (d : Dk) (qo : Jo) (r : Nat) (e : Dk) (N : Nat) (nm : Nm) : Prop :=
  ∃ Ap Aq, Ps w0 jo g d N nm w (M ++ Aq) Ap ∧ Qs qo r e N nm w Aq ∧ (∀ k ∈ Aq, w0.heap.size ≤ k) ∧ ∀ k ∈ M, k ∉ Aq ∧ w0.heap.size ≤ k
def PyTo (w0 w w' : World) (M : List Nat) (jo : Jo) (g : Nat) (d : Dk) (qo : Jo) (r : Nat) (e : Dk) (N : Nat) (nm : Nm) : Prop :=
  Py w0 w' M jo g d qo r e N nm ∧ ∀ k ∈ M, w'.heap[k]? = w.heap[k]?
section
variable {w0 w w' w'' : World} {jo qo jo' qo' : Jo} {g r : Nat} {d d' e e' : Dk} {N N' : Nat} {nm : Nm} {M M' : List Nat} {f : FuncId} {args : Array Value} {E : Ending → Prop}
theorem Py.bel (h : Py w0 w M jo g d qo r e N nm) : Below w0.heap.size w0 w := by
  obtain ⟨Ap, Aq, h1, h2, h3, h4⟩ := h
  exact h1.bel
theorem Py.lt (h : Py w0 w M jo g d qo r e N nm) : ∀ k ∈ M, k < w.heap.size ∧ w0.heap.size ≤ k := by
  obtain ⟨Ap, Aq, h1, h2, h3, h4⟩ := h
  exact fun k hk => ⟨h1.far k (List.mem_append_left _ hk), (h4 k hk).2⟩
theorem Py.mono (h : Py w0 w M jo g d qo r e N nm) (hm : N ≤ N') : Py w0 w M jo g d qo r e N' nm := by
  obtain ⟨Ap, Aq, h1, h2, h3, h4⟩ := h
  exact ⟨Ap, Aq, h1.mono hm, h2.mono hm, h3, h4⟩
theorem Py.less (h : Py w0 w M jo g d qo r e N nm) (hM : ∀ k ∈ M', k ∈ M) : Py w0 w M' jo g d qo r e N nm := by
  obtain ⟨Ap, Aq, h1, h2, h3, h4⟩ := h
  refine ⟨Ap, Aq, h1.less fun k hk => ?_, h2, h3, fun k hk => h4 k (hM k hk)⟩
  rcases List.mem_append.1 hk with hk | hk
  · exact List.mem_append_left _ (hM k hk)
  · exact List.mem_append_right _ hk
theorem Py.add (h : Py w0 w M jo g d qo r e N nm) (hb : Below w.heap.size w w') (L : List Nat) (hL : ∀ k ∈ L, w.heap.size ≤ k ∧ k < w'.heap.size) : Py w0 w' (L ++ M) jo g d qo r e N nm := by
  obtain ⟨Ap, Aq, h1, h2, h3, h4⟩ := h
  have hlt := h2.lt
  refine ⟨Ap, Aq, (h1.add hb L hL).less (fun k hk => by simp only [List.mem_append] at hk ⊢; rcases hk with (h | h) | h <;> simp [h]), h2.below hb, h3, fun k hk => ?_⟩
  rcases List.mem_append.1 hk with hk | hk
  · exact ⟨fun hm => by have := hlt k hm; have := (hL k hk).1; omega, Nat.le_trans h1.bel.size (hL k hk).1⟩
  · exact h4 k hk
theorem Py.below (h : Py w0 w M jo g d qo r e N nm) (hb : Below w.heap.size w w') : Py w0 w' M jo g d qo r e N nm := by
  obtain ⟨Ap, Aq, h1, h2, h3, h4⟩ := h
  exact ⟨Ap, Aq, h1.below hb, h2.below hb, h3, h4⟩
theorem Py.same (h : Py w0 w M jo g d qo r e N nm) (hb : Below w.heap.size w w') : PyTo w0 w w' M jo g d qo r e N nm := ⟨h.below hb, fun k hk => hb.block k (h.lt k hk).1⟩
theorem Py.set (h : Py w0 w M jo g d qo r e N nm) (a : Addr) (ha : a.block ∈ M) (v : Value) : Py w0 (w.setCell a v) M jo g d qo r e N nm := by
  obtain ⟨Ap, Aq, h1, h2, h3, h4⟩ := h
  exact ⟨Ap, Aq, h1.set a (List.mem_append_left _ ha) (h4 _ ha).2 v, h2.same fun k hk => heap_setCell_other _ _ _ _ (fun e => (h4 _ ha).1 (e ▸ hk)), h3, h4⟩
theorem PyTo.trans (h : PyTo w0 w w' M jo g d qo r e N nm) (h2 : PyTo w0 w' w'' M jo' g d' qo' r e' N' nm) : PyTo w0 w w'' M jo' g d' qo' r e' N' nm := ⟨h2.1, fun k hk => (h2.2 k hk).trans (h.2 k hk)⟩
theorem PyTo.mono (h : PyTo w0 w w' M jo g d qo r e N nm) (hm : N ≤ N') : PyTo w0 w w' M jo g d qo r e N' nm := ⟨h.1.mono hm, h.2⟩
/-- A call on the program's disk. -/
theorem Py.callP (h : Py w0 w M jo g d qo r e N nm) (hm : N ≤ N') (hc : ∀ K A, (∀ k ∈ M, k ∈ K) → Mine w0 w K A g d N → Calls Tryz.prog f args w fun x w' => E x ∧ MineTo w0 K w g d' N' w') : Calls Tryz.prog f args w fun x w' => E x ∧ PyTo w0 w w' M jo g d' qo r e N' nm := by
  obtain ⟨Ap, Aq, h1, h2, h3, h4⟩ := h
  refine (hc _ _ (fun k hk => List.mem_append_right _ (List.mem_append_left _ hk)) h1.mine).mono fun x w' ⟨hx, ht⟩ => ⟨hx, ?_⟩
  obtain ⟨⟨A', h5⟩, h6⟩ := h1.op ht
  exact ⟨⟨A', Aq, h5, (h2.same fun k hk => h6 k (List.mem_append_right _ hk)).mono hm, h3, h4⟩, fun k hk => h6 k (List.mem_append_left _ hk)⟩
theorem Stp.py {A A' : List Nat} (hs : Stp A A' w w') (h1 : Ps w0 jo g d N nm w (M ++ A) M') (h3 : ∀ k ∈ A, w0.heap.size ≤ k) (h4 : ∀ k ∈ M, k ∉ A ∧ w0.heap.size ≤ k) (hl : ∀ k ∈ A', k < w'.heap.size) :
    Ps w0 jo g d N nm w' (M ++ A') M' ∧ (∀ k ∈ A', w0.heap.size ≤ k) ∧ (∀ k ∈ M, k ∉ A' ∧ w0.heap.size ≤ k) ∧ ∀ k ∈ M, w'.heap[k]? = w.heap[k]? := by
  have hM : ∀ k ∈ M, k < w.heap.size := fun k hk => h1.far k (List.mem_append_left _ hk)
  refine ⟨h1.other hs (fun k hk => ⟨List.mem_append_right _ hk, h3 k hk⟩) (fun k hk => ?_), hs.from h3 h1.bel.size, fun k hk => ⟨fun hm => ?_, (h4 k hk).2⟩, fun k hk => hs.block k (hM k hk) (h4 k hk).1⟩
  · rcases List.mem_append.1 hk with hk | hk
    · exact ⟨Or.inl (List.mem_append_left _ hk), Nat.lt_of_lt_of_le (hM k hk) hs.size⟩
    · exact ⟨Or.inr hk, hl k hk⟩
  · rcases hs.inn k hm with h | h
    · exact (h4 k hk).1 h
    · have := hM k hk; omega
/-- A call on the document's disk. -/
theorem Py.callQ (h : Py w0 w M jo g d qo r e N nm) (hm : N ≤ N') (hc : ∀ A, Rd2 w A r e N → (∀ k ∈ A, w0.heap.size ≤ k) → Calls Tryz.prog f args w fun x w' => E x ∧ Rd2To r e' N' A w w') : Calls Tryz.prog f args w fun x w' => E x ∧ PyTo w0 w w' M jo g d qo r e' N' nm := by
  obtain ⟨Ap, Aq, h1, h2, h3, h4⟩ := h
  obtain ⟨Ar, hr, hra⟩ := h2.rd
  match qo, h2 with
  | none, h2 =>
    refine (hc Aq h2 h3).mono fun x w' ⟨hx, A', h5, hs⟩ => ⟨hx, ?_⟩
    obtain ⟨a1, a2, a3, a4⟩ := hs.py h1 h3 h4 h5.lt
    exact ⟨⟨Ap, A', a1.mono hm, h5, a2, a3⟩, a4⟩
  | some (q, n, c), h2 =>
    obtain ⟨A1, b1, b2, b3, b4, b5, b6⟩ := h2
    refine (hc A1 b1 (fun k hk => h3 k (b4 k hk))).mono fun x w' ⟨hx, ht⟩ => ⟨hx, ?_⟩
    obtain ⟨A', h5, hs⟩ := QJ.op b2 b3 b4 b5 ht
    obtain ⟨a1, a2, a3, a4⟩ := hs.py h1 h3 h4 h5.lt
    exact ⟨⟨Ap, A', a1.mono hm, h5, a2, a3⟩, a4⟩
/-- A call on the program's journal. -/
theorem Py.callJ {jb n n' : Nat} {c c' : Bool} (h : Py w0 w M (some (jb, n, c)) g d qo r e N nm) (hm : N ≤ N') (hc : ∀ K A, Jl w0 w K A jb g d N nm n c → Calls Tryz.prog f args w fun x w' => E x ∧ JlTo w0 K w jb g d' N' nm n' c' w') : Calls Tryz.prog f args w fun x w' => E x ∧ PyTo w0 w w' M (some (jb, n', c')) g d' qo r e N' nm := by
  obtain ⟨Ap, Aq, h1, h2, h3, h4⟩ := h
  refine (hc _ _ h1).mono fun x w' ⟨hx, ⟨A', h5⟩, h6⟩ => ⟨hx, ?_⟩
  exact ⟨⟨A', Aq, h5, (h2.same fun k hk => h6 k (List.mem_append_right _ hk)).mono hm, h3, h4⟩, fun k hk => h6 k (List.mem_append_left _ hk)⟩
/-- A call on the document's journal. -/
theorem Py.callK {q n n' : Nat} {c c' : Bool} (h : Py w0 w M jo g d (some (q, n, c)) r e N nm) (hm : N ≤ N') (hc : ∀ A, QJ w A q r e N nm n c → Calls Tryz.prog f args w fun x w' => E x ∧ QJTo q r e' N' nm n' c' A w w') : Calls Tryz.prog f args w fun x w' => E x ∧ PyTo w0 w w' M jo g d (some (q, n', c')) r e' N' nm := by
  obtain ⟨Ap, Aq, h1, h2, h3, h4⟩ := h
  refine (hc _ h2).mono fun x w' ⟨hx, A', h5, hs⟩ => ⟨hx, ?_⟩
  obtain ⟨a1, a2, a3, a4⟩ := hs.py h1 h3 h4 h5.lt
  exact ⟨⟨Ap, A', a1.mono hm, h5, a2, a3⟩, a4⟩
end
/-- The play's struct besides, and the call that is read. -/
structure Fw (w0 w : World) (wb g r : Nat) (jv qv : Value) (jo qo : Jo) (d e : Dk) (N : Nat) (nm : Nm) : Prop where
  py : Py w0 w [wb] jo g d qo r e N nm
  bx : Blk w wb [strV nm, .pointer (some ⟨g, 0, none⟩), jv, .pointer (some ⟨r, 0, none⟩), qv] 91
structure Fs (w0 w : World) (wb ab g r : Nat) (xs : List Value) (jv qv : Value) (jo qo : Jo) (d e : Dk) (N : Nat) (nm : Nm) : Prop where
  py : Py w0 w [ab, wb] jo g d qo r e N nm
  bx : Blk w wb [strV nm, .pointer (some ⟨g, 0, none⟩), jv, .pointer (some ⟨r, 0, none⟩), qv] 91
  ax : Blk w ab xs 81
section
variable {w0 w w' : World} {wb ab g r : Nat} {xs : List Value} {jv qv : Value} {jo qo jo' qo' : Jo} {d d' e e' : Dk} {N N' : Nat} {nm : Nm} {f : FuncId} {args : Array Value} {E : Ending → Prop}
theorem Fw.enter (h : Fw w0 w wb g r jv qv jo qo d e N nm) (xs : List Value) : Fs w0 (w.alloc (.cells xs.toArray 81)) wb w.heap.size g r xs jv qv jo qo d e N nm := by
  have hb : Below w.heap.size w (w.alloc (.cells xs.toArray 81)) := (Below.refl _ w).alloc (Nat.le_refl _) _
  exact ⟨h.py.add hb [w.heap.size] (fun k hk => by simp at hk; subst hk; simp), h.bx.below hb h.bx.lt, Blk.new _ _ _⟩
theorem Fs.leave (h : Fs w0 w wb ab g r xs jv qv jo qo d e N nm) : Fw w0 w wb g r jv qv jo qo d e N nm := ⟨h.py.less (fun k hk => by simp at hk; simp [hk]), h.bx⟩
theorem Fw.below (h : Fw w0 w wb g r jv qv jo qo d e N nm) (hb : Below w.heap.size w w') : Fw w0 w' wb g r jv qv jo qo d e N nm := ⟨h.py.below hb, h.bx.below hb h.bx.lt⟩
theorem Fs.below (h : Fs w0 w wb ab g r xs jv qv jo qo d e N nm) (hb : Below w.heap.size w w') : Fs w0 w' wb ab g r xs jv qv jo qo d e N nm := ⟨h.py.below hb, h.bx.below hb h.bx.lt, h.ax.below hb h.ax.lt⟩
theorem Fs.to (h : Fs w0 w wb ab g r xs jv qv jo qo d e N nm) (ht : PyTo w0 w w' [ab, wb] jo' g d' qo' r e' N' nm) : Fs w0 w' wb ab g r xs jv qv jo' qo' d' e' N' nm := ⟨ht.1, h.bx.same (ht.2 wb (by simp)), h.ax.same (ht.2 ab (by simp))⟩
theorem Fw.to (h : Fw w0 w wb g r jv qv jo qo d e N nm) (ht : PyTo w0 w w' [wb] jo' g d' qo' r e' N' nm) : Fw w0 w' wb g r jv qv jo' qo' d' e' N' nm := ⟨ht.1, h.bx.same (ht.2 wb (by simp))⟩
theorem Fs.mono (h : Fs w0 w wb ab g r xs jv qv jo qo d e N nm) (hm : N ≤ N') : Fs w0 w wb ab g r xs jv qv jo qo d e N' nm := ⟨h.py.mono hm, h.bx, h.ax⟩
theorem Fw.mono (h : Fw w0 w wb g r jv qv jo qo d e N nm) (hm : N ≤ N') : Fw w0 w wb g r jv qv jo qo d e N' nm := ⟨h.py.mono hm, h.bx⟩
theorem Fs.callP (h : Fs w0 w wb ab g r xs jv qv jo qo d e N nm) (hm : N ≤ N') (hc : ∀ K A, (∀ k ∈ [ab, wb], k ∈ K) → Mine w0 w K A g d N → Calls Tryz.prog f args w fun x w' => E x ∧ MineTo w0 K w g d' N' w') : Calls Tryz.prog f args w fun x w' => E x ∧ Fs w0 w' wb ab g r xs jv qv jo qo d' e N' nm :=
  (h.py.callP hm hc).mono fun x w' hp => ⟨hp.1, h.to hp.2⟩
theorem Fs.callQ (h : Fs w0 w wb ab g r xs jv qv jo qo d e N nm) (hm : N ≤ N') (hc : ∀ A, Rd2 w A r e N → (∀ k ∈ A, w0.heap.size ≤ k) → Calls Tryz.prog f args w fun x w' => E x ∧ Rd2To r e' N' A w w') : Calls Tryz.prog f args w fun x w' => E x ∧ Fs w0 w' wb ab g r xs jv qv jo qo d e' N' nm :=
  (h.py.callQ hm hc).mono fun x w' hp => ⟨hp.1, h.to hp.2⟩
theorem Fs.callJ {jb n n' : Nat} {c c' : Bool} (h : Fs w0 w wb ab g r xs jv qv (some (jb, n, c)) qo d e N nm) (hm : N ≤ N') (hc : ∀ K A, Jl w0 w K A jb g d N nm n c → Calls Tryz.prog f args w fun x w' => E x ∧ JlTo w0 K w jb g d' N' nm n' c' w') : Calls Tryz.prog f args w fun x w' => E x ∧ Fs w0 w' wb ab g r xs jv qv (some (jb, n', c')) qo d' e N' nm :=
  (h.py.callJ hm hc).mono fun x w' hp => ⟨hp.1, h.to hp.2⟩
theorem Fs.callK {q n n' : Nat} {c c' : Bool} (h : Fs w0 w wb ab g r xs jv qv jo (some (q, n, c)) d e N nm) (hm : N ≤ N') (hc : ∀ A, QJ w A q r e N nm n c → Calls Tryz.prog f args w fun x w' => E x ∧ QJTo q r e' N' nm n' c' A w w') : Calls Tryz.prog f args w fun x w' => E x ∧ Fs w0 w' wb ab g r xs jv qv jo (some (q, n', c')) d e' N' nm :=
  (h.py.callK hm hc).mono fun x w' hp => ⟨hp.1, h.to hp.2⟩
theorem Fw.cells (h : Fw w0 w wb g r jv qv jo qo d e N nm) : w.cell? ⟨wb, 0, none⟩ = some (strV nm) ∧ w.cell? ⟨wb, 1, none⟩ = some (.pointer (some ⟨g, 0, none⟩)) ∧ w.cell? ⟨wb, 2, none⟩ = some jv ∧ w.cell? ⟨wb, 3, none⟩ = some (.pointer (some ⟨r, 0, none⟩)) ∧ w.cell? ⟨wb, 4, none⟩ = some qv ∧ wb < w.heap.size := ⟨h.bx.cell 0, h.bx.cell 1, h.bx.cell 2, h.bx.cell 3, h.bx.cell 4, h.bx.lt⟩
theorem Fs.acells {x0 x1 x2 x3 : Value} (h : Fs w0 w wb ab g r [x0, x1, x2, x3] jv qv jo qo d e N nm) : w.cell? ⟨ab, 0, none⟩ = some x0 ∧ w.cell? ⟨ab, 1, none⟩ = some x1 ∧ w.cell? ⟨ab, 2, none⟩ = some x2 ∧ w.cell? ⟨ab, 3, none⟩ = some x3 ∧ ab < w.heap.size := ⟨h.ax.cell 0, h.ax.cell 1, h.ax.cell 2, h.ax.cell 3, h.ax.lt⟩
end
end Go.Proofs.YtfgpigblnkanpaaGreatDoor

namespace Go.Proofs.YtfgpigblnkanpaaGreatDoor
open Go.RowKit Go.Maps Go.Shelf
set_option linter.unusedVariables false
set_option linter.unusedSimpArgs false

theorem dlist_lenW (d : Dk) (head : List UInt8) : (dlist d head).length ≤ d.now.length := by
  unfold dlist
  split
  · exact Nat.zero_le _
  · exact tlist_len d.now head
theorem list_codeW (d : Dk) : ∃ co : Nat, errV (if d.off = true then 20 else 0) = errV co ∧ (if d.off = true then (20 : Int) else 0) = (co : Int) ∧ co ≤ 25 := by
  by_cases h : d.off = true
  · exact ⟨20, by rw [if_pos h], by rw [if_pos h]; rfl, by decide⟩
  · exact ⟨0, by rw [if_neg h], by rw [if_neg h]; rfl, by decide⟩
theorem dread_listedW {d : Dk} (hr : Rise d.now) {n : Nm} (hn : n ∈ dlist d []) : ∃ x, dread d n = (x, 0) := by
  by_cases hoff : d.off = true
  · unfold dlist at hn; rw [if_pos hoff] at hn; cases hn
  · have hoff' : d.off = false := by simpa using hoff
    rw [dlist_all hoff'] at hn
    obtain ⟨p, hp, rfl⟩ := List.mem_map.1 hn
    refine ⟨(fat d.files p.2).data, ?_⟩
    unfold dread
    rw [if_neg hoff, tget_of_mem hr (n := p.1) (f := p.2) hp]
theorem Hd.nameLenW {w : World} {A : List Nat} {g : Nat} {d : Dk} {N : Nat} (h : Hd w A g d N) : ∀ n ∈ dlist d [], n.length ≤ 9223372036854775807 := fun n hn => by
  obtain ⟨L, h1, _⟩ := h
  by_cases hoff : d.off = true
  · unfold dlist at hn; rw [if_pos hoff] at hn; cases hn
  · have hoff' : d.off = false := by simpa using hoff
    rw [dlist_all hoff'] at hn
    have h2 := h1.now.nameLen n hn
    unfold maxLen at h2
    exact h2
set_option maxHeartbeats 8000000 in
set_option maxRecDepth 100000 in
theorem alike_any (w : World) (A1 A2 : List Nat) (g r : Nat) (d : Dk) (N : Nat) (ha : Hd w A1 g d N) (hr : Rd2 w A2 r d N) (hN : N ≤ 1073741824) (hg : ErrorLaid w) :
    Calls Tryz.prog 54 #[.pointer (some ⟨g, 0, none⟩), .pointer (some ⟨r, 0, none⟩)] w fun e w' => e = .returned (.bool true) ∧ Below w.heap.size w w' := by
  obtain ⟨co, hc1, hc2, hcode⟩ := list_codeW d
  have hll := dlist_lenW d []
  have hnl := ha.bd.now
  have hrise := ha.ok.now
  have hL1 := fun W (hb : Below w.heap.size w W) => List_hd (ha.below hb) (by omega) [] (by simp)
  have hL2 := rList_rd hr hN []
  unfold ListPost at hL1
  simp only [hc1] at hL1
  rw [hc2] at hL2
  have hpl := fun W (hb : Below w.heap.size w W) => Plain_same co W hcode (hg.below hb)
  have hLn : (dlist d []).length ≤ 4294967296 := by omega
  have hRd := fun n (hn : n ∈ dlist d []) => dread_listedW hrise hn
  have hMem := ha.nameLenW
  clear hc1 hc2 hll hnl
  generalize dlist d [] = L at *
  have HL1 := Lib.hid hL1
  have HL2 := Lib.hid hL2
  have HPL := Lib.hid hpl
  have HG := Lib.hid hg
  have HA := Lib.hid ha
  have HR := Lib.hid hr
  have HRD := Lib.hid hRd
  have HNM := Lib.hid hMem
  have hUd := fun W (hb : Below w.heap.size w W) => Used_hd (ha.below hb) (by omega)
  have hUr := fun W (hb : Below w.heap.size w W) => (rUsed_rd (hr.below hb) hN).mono fun e w' ⟨he, q, hq⟩ => (⟨he, hq ▸ below_drewN (Below.refl _ _) q⟩ : e = Ending.returned (.int .i64 (dused d : Nat)) ∧ Below W.heap.size W w')
  have HUD := Lib.hid hUd
  have HUR := Lib.hid hUr
  clear ha hr hL1 hL2 hpl hg hRd hMem hUd hUr
  have hu : (((dused d : Nat) : Int) == ((dused d : Nat) : Int)) = true := by simp
  generalize dused d = ud at *
  go_enter Tryz.func54, Tryz.ntmps54
  go_wp2_with (fail)
  refine HL2.out.mono ?_
  rintro e w1 ⟨v2, rfl, ho2, hb1⟩
  have hs1 := hb1.size
  obtain ⟨a2, c2, rfl⟩ := row_shapeK ho2
  simp only [List.length_map] at *
  go_wp2_with (fail)
  refine (HL1.out _ hb1).mono ?_
  rintro e w2 ⟨v1, rfl, ho1, -, hb2⟩
  have hs2 := hb2.size
  have hb02 := hb1.trans (hb2.mono hs1)
  obtain ⟨a1, c1, rfl⟩ := row_shapeK ho1
  have s2 := TextsAt.sh (RowAt.of_row (row_below ho2 hb2))
  have s1 := TextsAt.sh (RowAt.of_row ho1)
  have HST := Lib.hid fun W (hb : Below w2.heap.size w2 W) => (SameTexts_sh W _ _ L L (s1.below hb) (s2.below hb) (by omega) (by omega)).mono fun e w' ⟨he, q, hq⟩ => (⟨by rw [he]; simp, hq ▸ below_drewN (Below.refl _ _) q⟩ : e = Ending.returned (.bool true) ∧ Below W.heap.size W w')
  have HS2 := Lib.hid s2
  have HB02 := Lib.hid hb02
  clear ho1 ho2 hb1 hb2 hb02 s1 s2 HL1 HL2 hs1 hs2
  go_wp2_with (fail)
  refine (HPL.out _ HB02.out).mono ?_
  rintro e w3 ⟨rfl, hb3⟩
  have HB3 := Lib.hid hb3
  clear hb3
  go_wp2_with (fail)
  refine (HST.out _ HB3.out).mono ?_
  rintro e w4 ⟨rfl, hb4⟩
  have HB4 : Hid (Below w2.heap.size w2 w4) := HB3.out.trans (hb4.mono HB3.out.size)
  clear hb4 HB3 HST HPL
  go_wp2_with (fail)
  go_loopw [9] (fun iv wr => ∃ k : Nat, iv = .int .i64 k ∧ k ≤ L.length ∧ Hid (Below w2.heap.size w2 wr)) (fun iv _ => L.length - (intOf iv).toNat)
  case atStart => exact ⟨0, rfl, Nat.zero_le _, HB4.out⟩
  case round =>
    clear HB4
    obtain ⟨k, rfl, hk, hbel⟩ := hrel
    have HB0 : Hid (Below w.heap.size w wr) := HB02.out.trans (hbel.out.mono HB02.out.size)
    by_cases hlt : k < L.length
    · obtain ⟨nm, hnm⟩ : ∃ x, L[k]? = some x := ⟨_, List.getElem?_eq_getElem hlt⟩
      have hmem := List.mem_of_getElem? hnm
      obtain ⟨dt, hdt⟩ := HRD.out nm hmem
      have hnl := HNM.out nm hmem
      obtain ⟨_, _, hwe, hsx⟩ := HS2.out.below hbel.out
      simp only [Value.slice.injEq] at hwe
      obtain ⟨rfl, -, rfl⟩ := hwe
      obtain ⟨sb, so, rfl, cs⟩ := hsx k nm hnm
      have hRd := fun W (hb : Below w.heap.size w W) => Read_hd (HA.out.below hb) nm hnl
      have hRr := rRead_rd (HR.out.below HB0.out) hN nm
      simp only [hdt, errV_none] at hRd
      simp only [hdt] at hRr
      have ik0 : (0 : Int) ≤ (k : Int) := by omega
      have ik1 : (k : Int) < (L.length : Int) := by omega
      have hqq : ((str dt).toList == (str dt).toList) = true := by simp
      have hsl : sb < wr.heap.size := World.block_lt_of_cell? wr _ cs
      have HRR := Lib.hid hRr
      have HRW := Lib.hid hRd
      clear hnm hmem hdt hnl hsx hRd hRr
      go_wp2_with (fail)
      refine HRR.out.mono ?_
      rintro e w5 ⟨rfl, hb5⟩
      have cs := (hb5.cell (p := ⟨sb, so + k, none⟩) hsl).trans cs
      have HB5 : Hid (Below w.heap.size w w5) := HB0.out.trans (hb5.mono HB0.out.size)
      have HB25 : Hid (Below w2.heap.size w2 w5) := hbel.out.trans (hb5.mono hbel.out.size)
      clear hb5 hbel HRR HB0
      go_wp2_with (fail)
      refine (HRW.out _ HB5.out).mono ?_
      rintro e w6 ⟨rfl, rfl⟩
      clear HRW
      go_wp2
      go_roundw
      case rel => exact ⟨k + 1, by go_num, by omega, HB25.out⟩
      case measure => simp [intOf]; omega
    · have ik1 : ¬ (k : Int) < (L.length : Int) := by omega
      clear hbel
      go_wp2_with (fail)
      refine (HUD.out _ HB0.out).mono ?_
      rintro e w5 ⟨rfl, hb5⟩
      have HB5 : Hid (Below w.heap.size w w5) := HB0.out.trans (hb5.mono HB0.out.size)
      clear hb5
      go_wp2_with (fail)
      refine (HUR.out _ HB5.out).mono ?_
      rintro e w6 ⟨rfl, hb6⟩
      have HB6 : Hid (Below w.heap.size w w6) := HB5.out.trans (hb6.mono HB5.out.size)
      clear hb6 HB5 HB0 HUD HUR
      go_wp2
      go_ret
      exact ⟨rfl, HB6.out⟩
end Go.Proofs.YtfgpigblnkanpaaGreatDoor
