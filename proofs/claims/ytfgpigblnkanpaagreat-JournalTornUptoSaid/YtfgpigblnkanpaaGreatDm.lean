/- A disk in memory, over this translation: tables as maps whose elements are files' blocks; what has turned (only the footprint). No conditions. -/
import Derived.Test.YtfgpigblnkanpaaGreatDkStruck
import Derived.Test.YtfgpigblnkanpaaGreatA
import Derived.Test.YtfgpigblnkanpaaGreatProg
import Derived.Maps.Own
import Derived.StringKeys
import Derived.Maps.OwnOps
import Derived.Maps.OwnSet
import Derived.Maps.Views
import Derived.Maps.Ext
import Derived.Maps.RangeWalk
import Derived.Sort.KeysCollected
namespace Go.Proofs.YtfgpigblnkanpaaGreat
open Go.RowKit Go.Maps

/-- Where the file i lies. -/
def fb (F : List Nat) (i : Nat) : Nat := F.getD i 0
/-- How a table's element reads: the block of its file; nil for none. -/
def fileElem (v : Value) : Option (DataW Unit × List MemPlace) :=
  match v with
  | .pointer none => some (.nil, [])
  | .pointer (some ⟨b, 0, none⟩) => some (.lit (.int .i64 b), [])
  | _ => none
def fileD (F : List Nat) : Option Nat → DataW Unit
  | none => .nil
  | some f => .lit (.int .i64 (fb F f))
def fileV (F : List Nat) : Option Nat → Value
  | none => .pointer none
  | some f => .pointer (some ⟨fb F f, 0, none⟩)
theorem fileElem_inv {v : Value} {F : List Nat} {o : Option Nat} {ps : List MemPlace} (h : fileElem v = some (fileD F o, ps)) : v = fileV F o := by
  unfold fileElem at h
  split at h
  · cases o with
    | none => rfl
    | some f => simp [fileD] at h
  · cases o with
    | none => simp [fileD] at h
    | some f =>
      simp only [fileD, Option.some.injEq, Prod.mk.injEq, DataW.lit.injEq, Lit.int.injEq, true_and] at h
      have e := h.1
      unfold fileV
      simp only [Value.pointer.injEq, Option.some.injEq, Addr.mk.injEq, and_true]
      omega
  · cases h
theorem tableKeyed : Keyed Tryz.prog 9 := string_keyed Tryz.underlying9

/-! ### entries -/
def ent (F : List Nat) (x : Nm × Nat) : Lit × DataW Unit := (.string x.1, .lit (.int .i64 (fb F x.2)))
theorem insert_perm {H : Type} (x : Lit × DataW H) : ∀ l : List (Lit × DataW H), (DataW.insert x l).Perm (x :: l)
  | [] => List.Perm.refl _
  | y :: r => by
    unfold DataW.insert
    split
    · exact List.Perm.refl _
    · exact ((insert_perm x r).cons y).trans (List.Perm.swap x y r)
theorem tins_perm (t : Tb) (n : Nm) (f : Nat) : (tins t n f).Perm ((n, f) :: tout t n) := by
  unfold tins
  refine List.perm_middle.trans (List.Perm.cons _ ?_)
  unfold tout
  induction t with
  | nil => exact List.Perm.refl _
  | cons x t ih =>
    rcases nlt_tri x.1 n with h | h | h
    · have h2 : nlt n x.1 = false := nlt_asymm h
      have h3 : (x.1 != n) = true := by simpa using nlt_ne h
      rw [List.filter_cons, if_pos h, List.filter_cons (p := fun x : Nm × Nat => nlt n x.1), if_neg (by rw [h2]; simp), List.filter_cons (p := fun x : Nm × Nat => x.1 != n), if_pos h3]
      exact ih.cons x
    · have h1 : nlt x.1 n = false := by rw [h]; exact nlt_irrefl n
      have h2 : nlt n x.1 = false := by rw [h]; exact nlt_irrefl n
      have h3 : (x.1 != n) = false := by simpa using h
      rw [List.filter_cons, if_neg (by rw [h1]; simp), List.filter_cons (p := fun x : Nm × Nat => nlt n x.1), if_neg (by rw [h2]; simp), List.filter_cons (p := fun x : Nm × Nat => x.1 != n), if_neg (by rw [h3]; simp)]
      exact ih
    · have h2 : nlt x.1 n = false := nlt_asymm h
      have h3 : (x.1 != n) = true := by simpa using (nlt_ne h).symm
      rw [List.filter_cons, if_neg (by rw [h2]; simp), List.filter_cons (p := fun x : Nm × Nat => nlt n x.1), if_pos h, List.filter_cons (p := fun x : Nm × Nat => x.1 != n), if_pos h3]
      exact List.perm_middle.trans (ih.cons x)
theorem ent_strike (t : Tb) (F : List Nat) (n : Nm) : (t.map (ent F)).filter (fun p => !p.1.sameKey (.string n)) = (tout t n).map (ent F) := by
  unfold tout
  rw [List.filter_map]
  rfl
theorem atKey_perm {es : List (Lit × DataW Unit)} {t : Tb} {F : List Nat} (hp : es.Perm (t.map (ent F))) (ht : Rise t) (n : Nm) : (DataW.map es).atKey (.string n) .nil = fileD F (tget t n) := by
  unfold DataW.atKey
  cases hf : es.find? (fun p => p.1.sameKey (.string n)) with
  | none =>
    cases hg : tget t n with
    | none => simp only [hf]; rfl
    | some f =>
      exfalso
      have hm : ent F (n, f) ∈ es := hp.mem_iff.2 (List.mem_map_of_mem (tget_mem hg))
      have := List.find?_eq_none.1 hf _ hm
      simp [ent, Lit.sameKey] at this
  | some p =>
    have h1 := List.find?_some hf
    have h2 := hp.mem_iff.1 (List.mem_of_find?_eq_some hf)
    obtain ⟨x, hx, rfl⟩ := List.mem_map.1 h2
    have h3 : x.1 = n := by simpa [ent, Lit.sameKey] using h1
    have h4 : tget t n = some x.2 := tget_of_mem ht (by rw [← h3]; exact hx)
    rw [h4]; simp only [hf]; rfl
theorem has_perm {es : List (Lit × DataW Unit)} {t : Tb} {F : List Nat} (hp : es.Perm (t.map (ent F))) (ht : Rise t) (n : Nm) : Maps.has (DataW.map es) (.string n) = (tget t n).isSome := by
  rw [Maps.has_eq]
  cases hg : tget t n with
  | none =>
    refine List.any_eq_false.2 fun p hpm => ?_
    obtain ⟨x, hx, rfl⟩ := List.mem_map.1 (hp.mem_iff.1 hpm)
    intro h3
    have h4 : x.1 = n := by simpa [ent, Lit.sameKey] using h3
    have h5 := tget_of_mem (n := x.1) (f := x.2) ht hx
    rw [h4, hg] at h5
    cases h5
  | some f =>
    refine List.any_eq_true.2 ⟨ent F (n, f), hp.mem_iff.2 (List.mem_map_of_mem (tget_mem hg)), ?_⟩
    simp [ent, Lit.sameKey]

/-! ### tables in memory -/
/-- Block b is a table of at most N entries that leads where t says, the file i lying in block F[i]. -/
def MapIs (w : World) (b : Nat) (t : Tb) (F : List Nat) (N : Nat) : Prop :=
  ∃ es : List (Lit × DataW Unit), w.ownsMap Tryz.prog 9 fileElem b N (.map es) ∧ es.Perm (t.map (ent F))
theorem MapIs.lt {w : World} {b : Nat} {t : Tb} {F : List Nat} {N : Nat} (h : MapIs w b t F N) : b < w.heap.size := by
  obtain ⟨es, hown, _⟩ := h
  exact hown.lt
theorem MapIs.mono {w : World} {b : Nat} {t : Tb} {F : List Nat} {N M : Nat} (h : MapIs w b t F N) (hm : N ≤ M) : MapIs w b t F M := by
  obtain ⟨es, hown, hp⟩ := h
  exact ⟨es, hown.mono hm, hp⟩
theorem MapIs.same {w w' : World} {b : Nat} {t : Tb} {F : List Nat} {N : Nat} (h : MapIs w b t F N) (he : w'.heap[b]? = w.heap[b]?) : MapIs w' b t F N := by
  obtain ⟨es, ⟨es', clock, hb, rest⟩, hp⟩ := h
  exact ⟨es, ⟨es', clock, he.trans hb, rest⟩, hp⟩
theorem MapIs.fresh (w : World) (F : List Nat) : MapIs (w.alloc (.map #[] 0)) w.heap.size [] F 0 := ⟨[], World.ownsMap_made w _ _ _, List.Perm.refl _⟩
theorem MapIs.more {w : World} {b : Nat} {t : Tb} {F : List Nat} {N : Nat} (h : MapIs w b t F N) (hin : ∀ x ∈ t, x.2 < F.length) (c : Nat) : MapIs w b t (F ++ [c]) N := by
  obtain ⟨es, hown, hp⟩ := h
  refine ⟨es, hown, ?_⟩
  have e : t.map (ent F) = t.map (ent (F ++ [c])) := List.map_congr_left fun x hx => by
    unfold ent fb
    rw [List.getD_eq_getElem?_getD, List.getD_eq_getElem?_getD, List.getElem?_append_left (hin x hx)]
  rw [← e]; exact hp
theorem nmKey (n : Nm) (hk : n.length ≤ maxLen) : keyOf Tryz.prog 9 (strV n) = some (.string n) := WideMaps.keyOf_string_mk Tryz.underlying9 (by rw [str_size]; exact hk)
theorem MapIs.look {w : World} {b : Nat} {t : Tb} {F : List Nat} {N : Nat} (h : MapIs w b t F N) (ht : Rise t) (key : List UInt8) (hk : key.length ≤ maxLen) : (Instr.lookup 44 (.map (some b)) (strV key) false).run Tryz.prog w = .ok (fileV F (tget t key)) w := by
  obtain ⟨es, hown, hp⟩ := h
  obtain ⟨v, ps, hrun, hv⟩ := hown.lookup tableKeyed Tryz.underlying44 (z := .pointer none) (zd := .nil) (zp := []) (by kernel_rfl) rfl (nmKey key hk)
  rw [atKey_perm hp ht key] at hv
  rw [hrun, fileElem_inv hv]
theorem MapIs.put {w : World} {b : Nat} {t : Tb} {F : List Nat} {N : Nat} (h : MapIs w b t F N) (hn : N < maxLen) (key : List UInt8) (hk : key.length ≤ maxLen) (f : Nat) :
    ∃ w', (Instr.mapUpdate 44 (.map (some b)) (strV key) (.pointer (some ⟨fb F f, 0, none⟩))).run Tryz.prog w = .ok () w' ∧ MapIs w' b (tins t key f) F (N + 1) ∧ w.grownBy w' (some b) := by
  obtain ⟨es, hown, hp⟩ := h
  obtain ⟨w', hrun, h1, h2⟩ := hown.update tableKeyed Tryz.underlying44 hn (val := .pointer (some ⟨fb F f, 0, none⟩)) (d := .lit (.int .i64 (fb F f))) (ps := []) (nmKey key hk) rfl
  refine ⟨w', hrun, ⟨_, h1, ?_⟩, h2⟩
  refine (insert_perm _ _).trans ?_
  refine List.Perm.trans ?_ ((tins_perm t key f).map (ent F)).symm
  refine List.Perm.cons _ ?_
  rw [← ent_strike]
  exact hp.filter _
theorem MapIs.cut {w : World} {b : Nat} {t : Tb} {F : List Nat} {N : Nat} (h : MapIs w b t F N) (key : List UInt8) (hk : key.length ≤ maxLen) (ty : TypeId) :
    ∃ w', (Builtin.delete_ #[44, 9] ty #[.map (some b), strV key]).run Tryz.prog w = .ok (.tuple #[]) w' ∧ MapIs w' b (tout t key) F N ∧ w.grownBy w' (some b) := by
  obtain ⟨es, hown, hp⟩ := h
  obtain ⟨w', hrun, h1, h2⟩ := hown.drop tableKeyed Tryz.underlying44 (nmKey key hk) ty
  refine ⟨w', hrun, ⟨_, h1, ?_⟩, h2.grown⟩
  rw [← ent_strike]
  exact hp.filter _
theorem mapClone_is {w w' : World} {b b' : Nat} {t : Tb} {F : List Nat} {N : Nat} {es : Array MapEntry} {clock : Nat} (h : MapIs w b t F N) (hb : w.heap[b]? = some (.map es clock)) (hb' : w'.heap[b']? = some (.map es clock)) : MapIs w' b' t F N := by
  obtain ⟨D, ⟨es', clock', h1, rest⟩, hp⟩ := h
  rw [hb] at h1
  simp only [Option.some.injEq, Obj.map.injEq] at h1
  obtain ⟨rfl, rfl⟩ := h1
  exact ⟨D, ⟨es, clock, hb', rest⟩, hp⟩
theorem MapIs.obj {w : World} {b : Nat} {t : Tb} {F : List Nat} {N : Nat} (h : MapIs w b t F N) : ∃ es clock, w.heap[b]? = some (.map es clock) := by
  obtain ⟨D, ⟨es, clock, hb, _⟩, _⟩ := h
  exact ⟨es, clock, hb⟩

/-! ### the names in order -/
theorem nle_of_lt {a b : Nm} (h : nlt a b = true) : decide (a ≤ b) = true := by
  rw [nlt_eq] at h
  simp only [decide_eq_true_eq] at *
  exact List.le_of_lt h
theorem sorted_names {t : Tb} (ht : Rise t) {ss : List (List UInt8)} (hp : ss.Perm (tnames t)) : ss.mergeSort leB = tnames t := by
  rw [mergeSort_of_perm hp]
  refine List.mergeSort_of_pairwise ?_
  unfold tnames
  rw [List.pairwise_map]
  exact List.Pairwise.imp (fun h => nle_of_lt h) ht
theorem strKeys_names {es : List (Lit × DataW Unit)} {t : Tb} {F : List Nat} (hp : es.Perm (t.map (ent F))) : (strKeys (DataW.map es)).Perm (tnames t) := by
  have := hp.map (fun p => strOf p.1)
  rw [List.map_map] at this
  exact this

theorem MapIs.nameLen {w : World} {b : Nat} {t : Tb} {F : List Nat} {N : Nat} (h : MapIs w b t F N) : ∀ n ∈ tnames t, n.length ≤ maxLen := by
  obtain ⟨es, hown, hp⟩ := h
  intro n hn
  exact strKeys_le hown Tryz.underlying9 n ((strKeys_names hp).mem_iff.2 hn)

/-! ### what has turned -/
/-- Only blocks of A have turned; B is within A and what is new. -/
structure Stp (A B : List Nat) (w w' : World) : Prop where
  os : w'.os = w.os
  tape : w'.tape = w.tape
  output : w'.output = w.output
  size : w.heap.size ≤ w'.heap.size
  block : ∀ k, k < w.heap.size → k ∉ A → w'.heap[k]? = w.heap[k]?
  inn : ∀ k ∈ B, k ∈ A ∨ w.heap.size ≤ k
theorem Stp.refl (A : List Nat) (w : World) : Stp A A w w := ⟨rfl, rfl, rfl, Nat.le_refl _, fun _ _ _ => rfl, fun _ h => Or.inl h⟩
theorem Stp.trans {A B C : List Nat} {u v w : World} (h : Stp A B u v) (k : Stp B C v w) : Stp A C u w :=
  ⟨k.os.trans h.os, k.tape.trans h.tape, k.output.trans h.output, Nat.le_trans h.size k.size, fun i hi hA => (k.block i (Nat.lt_of_lt_of_le hi h.size) (fun hB => by
    rcases h.inn i hB with h1 | h1
    · exact hA h1
    · omega)).trans (h.block i hi hA), fun i hi => by
    rcases k.inn i hi with h1 | h1
    · exact h.inn i h1
    · exact Or.inr (Nat.le_trans h.size h1)⟩
theorem Stp.of_grown {A B : List Nat} {w w' : World} {row : Option Nat} (hg : w.grownBy w' row) (hr : ∀ k, row = some k → k ∈ A) (hB : ∀ k ∈ B, k ∈ A ∨ w.heap.size ≤ k) : Stp A B w w' :=
  ⟨hg.os, hg.tape, hg.output, hg.size, fun k hk hA => hg.block k hk (fun e => hA (hr k e.symm)), hB⟩
theorem Stp.of_below {A B : List Nat} {w w' : World} (hb : Below w.heap.size w w') (hB : ∀ k ∈ B, k ∈ A ∨ w.heap.size ≤ k) : Stp A B w w' :=
  ⟨hb.os, hb.tape, hb.output, hb.size, fun k hk _ => hb.block k hk, hB⟩
theorem Stp.of_set {A B : List Nat} (w : World) (a : Addr) (u : Value) (ha : a.block ∈ A) (hB : ∀ k ∈ B, k ∈ A ∨ w.heap.size ≤ k) : Stp A B w (w.setCell a u) :=
  ⟨rfl, rfl, rfl, by simp [World.setCell], fun k _ hA => Below.heap_setCell _ _ _ _ (fun e => hA (e ▸ ha)), hB⟩
theorem Stp.less {A B C : List Nat} {w w' : World} (h : Stp A B w w') (hC : ∀ k ∈ C, k ∈ B) : Stp A C w w' := ⟨h.os, h.tape, h.output, h.size, h.block, fun k hk => h.inn k (hC k hk)⟩
theorem Stp.wide {A B C : List Nat} {w w' : World} (h : Stp A B w w') (hC : ∀ k ∈ A, k ∈ C) : Stp C B w w' := ⟨h.os, h.tape, h.output, h.size, fun k hk hn => h.block k hk (fun e => hn (hC k e)), fun k hk => (h.inn k hk).imp (hC k) id⟩
/-- All blocks of A lie from N on: below N nothing has turned. -/
theorem Stp.below {A B : List Nat} {w w' : World} (h : Stp A B w w') {N : Nat} (hA : ∀ k ∈ A, N ≤ k) (hN : N ≤ w.heap.size) : Below N w w' :=
  ⟨h.os, h.tape, h.output, h.size, fun k hk => h.block k (by omega) (fun e => by have := hA k e; omega)⟩
theorem Stp.from {A B : List Nat} {w w' : World} (h : Stp A B w w') {N : Nat} (hA : ∀ k ∈ A, N ≤ k) (hN : N ≤ w.heap.size) : ∀ k ∈ B, N ≤ k := fun k hk => by
  rcases h.inn k hk with h1 | h1
  · exact hA k h1
  · omega
end Go.Proofs.YtfgpigblnkanpaaGreat
