/- A disk in memory, over this translation: tables as maps whose elements are files' blocks; what has turned (only the footprint). No conditions. A disk in memory, over this translation: its cells, its two tables, its files, what waits for a flush; all blocks apart. No conditions. -/
import Derived.Test.YtfgpigblnkanpaaGreatDoorGA
import Derived.Test.YtfgpigblnkanpaaGreatDoorA
import Derived.Test.YtfgpigblnkanpaaGreatDoorProg
import Derived.Maps.Own
import Derived.StringKeys
import Derived.Maps.OwnOps
import Derived.Maps.OwnSet
import Derived.Maps.Views
import Derived.Maps.Ext
import Derived.Maps.RangeWalk
import Derived.Sort.KeysCollected
namespace Go.Proofs.YtfgpigblnkanpaaGreatDoor
open Go.RowKit Go.Maps

/-- Where the file i lies. -/
def fb (F : List Nat) (i : Nat) : Nat := F.getD i 0
/-- How a table's element reads: the block of its file; nil for none. -/
def fileElem (v : Value) : Option (DataW Unit × List MemPlace) :=
  match v with
  | .pointer none => some (.nil, [])
  | .pointer (some ⟨b, 0, none⟩) => some (.lit (.int .i64 b), [])
  | _ => none
def fileD (F : List Nat) : Option Nat → DataW Unit
  | none => .nil
  | some f => .lit (.int .i64 (fb F f))
def fileV (F : List Nat) : Option Nat → Value
  | none => .pointer none
  | some f => .pointer (some ⟨fb F f, 0, none⟩)
theorem fileElem_inv {v : Value} {F : List Nat} {o : Option Nat} {ps : List MemPlace} (h : fileElem v = some (fileD F o, ps)) : v = fileV F o := by
  unfold fileElem at h
  split at h
  · cases o with
    | none => rfl
    | some f => simp [fileD] at h
  · cases o with
    | none => simp [fileD] at h
    | some f =>
      simp only [fileD, Option.some.injEq, Prod.mk.injEq, DataW.lit.injEq, Lit.int.injEq, true_and] at h
      have e := h.1
      unfold fileV
      simp only [Value.pointer.injEq, Option.some.injEq, Addr.mk.injEq, and_true]
      omega
  · cases h
theorem tableKeyed : Keyed Tryz.prog 9 := string_keyed Tryz.underlying9

/-! ### entries -/
def ent (F : List Nat) (x : Nm × Nat) : Lit × DataW Unit := (.string x.1, .lit (.int .i64 (fb F x.2)))
theorem insert_perm {H : Type} (x : Lit × DataW H) : ∀ l : List (Lit × DataW H), (DataW.insert x l).Perm (x :: l)
  | [] => List.Perm.refl _
  | y :: r => by
    unfold DataW.insert
    split
    · exact List.Perm.refl _
    · exact ((insert_perm x r).cons y).trans (List.Perm.swap x y r)
theorem tins_perm (t : Tb) (n : Nm) (f : Nat) : (tins t n f).Perm ((n, f) :: tout t n) := by
  unfold tins
  refine List.perm_middle.trans (List.Perm.cons _ ?_)
  unfold tout
  induction t with
  | nil => exact List.Perm.refl _
  | cons x t ih =>
    rcases nlt_tri x.1 n with h | h | h
    · have h2 : nlt n x.1 = false := nlt_asymm h
      have h3 : (x.1 != n) = true := by simpa using nlt_ne h
      rw [List.filter_cons, if_pos h, List.filter_cons (p := fun x : Nm × Nat => nlt n x.1), if_neg (by rw [h2]; simp), List.filter_cons (p := fun x : Nm × Nat => x.1 != n), if_pos h3]
      exact ih.cons x
    · have h1 : nlt x.1 n = false := by rw [h]; exact nlt_irrefl n
      have h2 : nlt n x.1 = false := by rw [h]; exact nlt_irrefl n
      have h3 : (x.1 != n) = false := by simpa using h
      rw [List.filter_cons, if_neg (by rw [h1]; simp), List.filter_cons (p := fun x : Nm × Nat => nlt n x.1), if_neg (by rw [h2]; simp), List.filter_cons (p := fun x : Nm × Nat => x.1 != n), if_neg (by rw [h3]; simp)]
      exact ih
    · have h2 : nlt x.1 n = false := nlt_asymm h
      have h3 : (x.1 != n) = true := by simpa using (nlt_ne h).symm
      rw [List.filter_cons, if_neg (by rw [h2]; simp), List.filter_cons (p := fun x : Nm × Nat => nlt n x.1), if_pos h, List.filter_cons (p := fun x : Nm × Nat => x.1 != n), if_pos h3]
      exact List.perm_middle.trans (ih.cons x)
theorem ent_strike (t : Tb) (F : List Nat) (n : Nm) : (t.map (ent F)).filter (fun p => !p.1.sameKey (.string n)) = (tout t n).map (ent F) := by
  unfold tout
  rw [List.filter_map]
  rfl
theorem atKey_perm {es : List (Lit × DataW Unit)} {t : Tb} {F : List Nat} (hp : es.Perm (t.map (ent F))) (ht : Rise t) (n : Nm) : (DataW.map es).atKey (.string n) .nil = fileD F (tget t n) := by
  unfold DataW.atKey
  cases hf : es.find? (fun p => p.1.sameKey (.string n)) with
  | none =>
    cases hg : tget t n with
    | none => simp only [hf]; rfl
    | some f =>
      exfalso
      have hm : ent F (n, f) ∈ es := hp.mem_iff.2 (List.mem_map_of_mem (tget_mem hg))
      have := List.find?_eq_none.1 hf _ hm
      simp [ent, Lit.sameKey] at this
  | some p =>
    have h1 := List.find?_some hf
    have h2 := hp.mem_iff.1 (List.mem_of_find?_eq_some hf)
    obtain ⟨x, hx, rfl⟩ := List.mem_map.1 h2
    have h3 : x.1 = n := by simpa [ent, Lit.sameKey] using h1
    have h4 : tget t n = some x.2 := tget_of_mem ht (by rw [← h3]; exact hx)
    rw [h4]; simp only [hf]; rfl
theorem has_perm {es : List (Lit × DataW Unit)} {t : Tb} {F : List Nat} (hp : es.Perm (t.map (ent F))) (ht : Rise t) (n : Nm) : Maps.has (DataW.map es) (.string n) = (tget t n).isSome := by
  rw [Maps.has_eq]
  cases hg : tget t n with
  | none =>
    refine List.any_eq_false.2 fun p hpm => ?_
    obtain ⟨x, hx, rfl⟩ := List.mem_map.1 (hp.mem_iff.1 hpm)
    intro h3
    have h4 : x.1 = n := by simpa [ent, Lit.sameKey] using h3
    have h5 := tget_of_mem (n := x.1) (f := x.2) ht hx
    rw [h4, hg] at h5
    cases h5
  | some f =>
    refine List.any_eq_true.2 ⟨ent F (n, f), hp.mem_iff.2 (List.mem_map_of_mem (tget_mem hg)), ?_⟩
    simp [ent, Lit.sameKey]

/-! ### tables in memory -/
/-- Block b is a table of at most N entries that leads where t says, the file i lying in block F[i]. -/
def MapIs (w : World) (b : Nat) (t : Tb) (F : List Nat) (N : Nat) : Prop :=
  ∃ es : List (Lit × DataW Unit), w.ownsMap Tryz.prog 9 fileElem b N (.map es) ∧ es.Perm (t.map (ent F))
theorem MapIs.lt {w : World} {b : Nat} {t : Tb} {F : List Nat} {N : Nat} (h : MapIs w b t F N) : b < w.heap.size := by
  obtain ⟨es, hown, _⟩ := h
  exact hown.lt
theorem MapIs.mono {w : World} {b : Nat} {t : Tb} {F : List Nat} {N M : Nat} (h : MapIs w b t F N) (hm : N ≤ M) : MapIs w b t F M := by
  obtain ⟨es, hown, hp⟩ := h
  exact ⟨es, hown.mono hm, hp⟩
theorem MapIs.same {w w' : World} {b : Nat} {t : Tb} {F : List Nat} {N : Nat} (h : MapIs w b t F N) (he : w'.heap[b]? = w.heap[b]?) : MapIs w' b t F N := by
  obtain ⟨es, ⟨es', clock, hb, rest⟩, hp⟩ := h
  exact ⟨es, ⟨es', clock, he.trans hb, rest⟩, hp⟩
theorem MapIs.fresh (w : World) (F : List Nat) : MapIs (w.alloc (.map #[] 0)) w.heap.size [] F 0 := ⟨[], World.ownsMap_made w _ _ _, List.Perm.refl _⟩
theorem MapIs.more {w : World} {b : Nat} {t : Tb} {F : List Nat} {N : Nat} (h : MapIs w b t F N) (hin : ∀ x ∈ t, x.2 < F.length) (c : Nat) : MapIs w b t (F ++ [c]) N := by
  obtain ⟨es, hown, hp⟩ := h
  refine ⟨es, hown, ?_⟩
  have e : t.map (ent F) = t.map (ent (F ++ [c])) := List.map_congr_left fun x hx => by
    unfold ent fb
    rw [List.getD_eq_getElem?_getD, List.getD_eq_getElem?_getD, List.getElem?_append_left (hin x hx)]
  rw [← e]; exact hp
theorem nmKey (n : Nm) (hk : n.length ≤ maxLen) : keyOf Tryz.prog 9 (strV n) = some (.string n) := WideMaps.keyOf_string_mk Tryz.underlying9 (by rw [str_size]; exact hk)
theorem MapIs.look {w : World} {b : Nat} {t : Tb} {F : List Nat} {N : Nat} (h : MapIs w b t F N) (ht : Rise t) (key : List UInt8) (hk : key.length ≤ maxLen) : (Instr.lookup 98 (.map (some b)) (strV key) false).run Tryz.prog w = .ok (fileV F (tget t key)) w := by
  obtain ⟨es, hown, hp⟩ := h
  obtain ⟨v, ps, hrun, hv⟩ := hown.lookup tableKeyed Tryz.underlying98 (z := .pointer none) (zd := .nil) (zp := []) (by kernel_rfl) rfl (nmKey key hk)
  rw [atKey_perm hp ht key] at hv
  rw [hrun, fileElem_inv hv]
theorem MapIs.put {w : World} {b : Nat} {t : Tb} {F : List Nat} {N : Nat} (h : MapIs w b t F N) (hn : N < maxLen) (key : List UInt8) (hk : key.length ≤ maxLen) (f : Nat) :
    ∃ w', (Instr.mapUpdate 98 (.map (some b)) (strV key) (.pointer (some ⟨fb F f, 0, none⟩))).run Tryz.prog w = .ok () w' ∧ MapIs w' b (tins t key f) F (N + 1) ∧ w.grownBy w' (some b) := by
  obtain ⟨es, hown, hp⟩ := h
  obtain ⟨w', hrun, h1, h2⟩ := hown.update tableKeyed Tryz.underlying98 hn (val := .pointer (some ⟨fb F f, 0, none⟩)) (d := .lit (.int .i64 (fb F f))) (ps := []) (nmKey key hk) rfl
  refine ⟨w', hrun, ⟨_, h1, ?_⟩, h2⟩
  refine (insert_perm _ _).trans ?_
  refine List.Perm.trans ?_ ((tins_perm t key f).map (ent F)).symm
  refine List.Perm.cons _ ?_
  rw [← ent_strike]
  exact hp.filter _
theorem MapIs.cut {w : World} {b : Nat} {t : Tb} {F : List Nat} {N : Nat} (h : MapIs w b t F N) (key : List UInt8) (hk : key.length ≤ maxLen) (ty : TypeId) :
    ∃ w', (Builtin.delete_ #[98, 9] ty #[.map (some b), strV key]).run Tryz.prog w = .ok (.tuple #[]) w' ∧ MapIs w' b (tout t key) F N ∧ w.grownBy w' (some b) := by
  obtain ⟨es, hown, hp⟩ := h
  obtain ⟨w', hrun, h1, h2⟩ := hown.drop tableKeyed Tryz.underlying98 (nmKey key hk) ty
  refine ⟨w', hrun, ⟨_, h1, ?_⟩, h2.grown⟩
  rw [← ent_strike]
  exact hp.filter _
theorem mapClone_is {w w' : World} {b b' : Nat} {t : Tb} {F : List Nat} {N : Nat} {es : Array MapEntry} {clock : Nat} (h : MapIs w b t F N) (hb : w.heap[b]? = some (.map es clock)) (hb' : w'.heap[b']? = some (.map es clock)) : MapIs w' b' t F N := by
  obtain ⟨D, ⟨es', clock', h1, rest⟩, hp⟩ := h
  rw [hb] at h1
  simp only [Option.some.injEq, Obj.map.injEq] at h1
  obtain ⟨rfl, rfl⟩ := h1
  exact ⟨D, ⟨es, clock, hb', rest⟩, hp⟩
theorem MapIs.obj {w : World} {b : Nat} {t : Tb} {F : List Nat} {N : Nat} (h : MapIs w b t F N) : ∃ es clock, w.heap[b]? = some (.map es clock) := by
  obtain ⟨D, ⟨es, clock, hb, _⟩, _⟩ := h
  exact ⟨es, clock, hb⟩

/-! ### the names in order -/
theorem nle_of_lt {a b : Nm} (h : nlt a b = true) : decide (a ≤ b) = true := by
  rw [nlt_eq] at h
  simp only [decide_eq_true_eq] at *
  exact List.le_of_lt h
theorem sorted_names {t : Tb} (ht : Rise t) {ss : List (List UInt8)} (hp : ss.Perm (tnames t)) : ss.mergeSort leB = tnames t := by
  rw [mergeSort_of_perm hp]
  refine List.mergeSort_of_pairwise ?_
  unfold tnames
  rw [List.pairwise_map]
  exact List.Pairwise.imp (fun h => nle_of_lt h) ht
theorem strKeys_names {es : List (Lit × DataW Unit)} {t : Tb} {F : List Nat} (hp : es.Perm (t.map (ent F))) : (strKeys (DataW.map es)).Perm (tnames t) := by
  have := hp.map (fun p => strOf p.1)
  rw [List.map_map] at this
  exact this

theorem MapIs.nameLen {w : World} {b : Nat} {t : Tb} {F : List Nat} {N : Nat} (h : MapIs w b t F N) : ∀ n ∈ tnames t, n.length ≤ maxLen := by
  obtain ⟨es, hown, hp⟩ := h
  intro n hn
  exact strKeys_le hown Tryz.underlying9 n ((strKeys_names hp).mem_iff.2 hn)

/-! ### what has turned -/
/-- Only blocks of A have turned; B is within A and what is new. -/
structure Stp (A B : List Nat) (w w' : World) : Prop where
  os : w'.os = w.os
  tape : w'.tape = w.tape
  output : w'.output = w.output
  size : w.heap.size ≤ w'.heap.size
  block : ∀ k, k < w.heap.size → k ∉ A → w'.heap[k]? = w.heap[k]?
  inn : ∀ k ∈ B, k ∈ A ∨ w.heap.size ≤ k
theorem Stp.refl (A : List Nat) (w : World) : Stp A A w w := ⟨rfl, rfl, rfl, Nat.le_refl _, fun _ _ _ => rfl, fun _ h => Or.inl h⟩
theorem Stp.trans {A B C : List Nat} {u v w : World} (h : Stp A B u v) (k : Stp B C v w) : Stp A C u w :=
  ⟨k.os.trans h.os, k.tape.trans h.tape, k.output.trans h.output, Nat.le_trans h.size k.size, fun i hi hA => (k.block i (Nat.lt_of_lt_of_le hi h.size) (fun hB => by
    rcases h.inn i hB with h1 | h1
    · exact hA h1
    · omega)).trans (h.block i hi hA), fun i hi => by
    rcases k.inn i hi with h1 | h1
    · exact h.inn i h1
    · exact Or.inr (Nat.le_trans h.size h1)⟩
theorem Stp.of_grown {A B : List Nat} {w w' : World} {row : Option Nat} (hg : w.grownBy w' row) (hr : ∀ k, row = some k → k ∈ A) (hB : ∀ k ∈ B, k ∈ A ∨ w.heap.size ≤ k) : Stp A B w w' :=
  ⟨hg.os, hg.tape, hg.output, hg.size, fun k hk hA => hg.block k hk (fun e => hA (hr k e.symm)), hB⟩
theorem Stp.of_below {A B : List Nat} {w w' : World} (hb : Below w.heap.size w w') (hB : ∀ k ∈ B, k ∈ A ∨ w.heap.size ≤ k) : Stp A B w w' :=
  ⟨hb.os, hb.tape, hb.output, hb.size, fun k hk _ => hb.block k hk, hB⟩
theorem Stp.of_set {A B : List Nat} (w : World) (a : Addr) (u : Value) (ha : a.block ∈ A) (hB : ∀ k ∈ B, k ∈ A ∨ w.heap.size ≤ k) : Stp A B w (w.setCell a u) :=
  ⟨rfl, rfl, rfl, by simp [World.setCell], fun k _ hA => Below.heap_setCell _ _ _ _ (fun e => hA (e ▸ ha)), hB⟩
theorem Stp.less {A B C : List Nat} {w w' : World} (h : Stp A B w w') (hC : ∀ k ∈ C, k ∈ B) : Stp A C w w' := ⟨h.os, h.tape, h.output, h.size, h.block, fun k hk => h.inn k (hC k hk)⟩
theorem Stp.wide {A B C : List Nat} {w w' : World} (h : Stp A B w w') (hC : ∀ k ∈ A, k ∈ C) : Stp C B w w' := ⟨h.os, h.tape, h.output, h.size, fun k hk hn => h.block k hk (fun e => hn (hC k e)), fun k hk => (h.inn k hk).imp (hC k) id⟩
/-- All blocks of A lie from N on: below N nothing has turned. -/
theorem Stp.below {A B : List Nat} {w w' : World} (h : Stp A B w w') {N : Nat} (hA : ∀ k ∈ A, N ≤ k) (hN : N ≤ w.heap.size) : Below N w w' :=
  ⟨h.os, h.tape, h.output, h.size, fun k hk => h.block k (by omega) (fun e => by have := hA k e; omega)⟩
theorem Stp.from {A B : List Nat} {w w' : World} (h : Stp A B w w') {N : Nat} (hA : ∀ k ∈ A, N ≤ k) (hN : N ≤ w.heap.size) : ∀ k ∈ B, N ≤ k := fun k hk => by
  rcases h.inn k hk with h1 | h1
  · exact hA k h1
  · omega
end Go.Proofs.YtfgpigblnkanpaaGreatDoor

namespace Go.Proofs.YtfgpigblnkanpaaGreatDoor
open Go.RowKit Go.Maps

/-- Where a disk's parts lie: its tables, its files, what waits (a row of values, over boxed variables X), its fate. -/
structure Lay where
  bn : Nat
  bs : Nat
  F : List Nat
  X : List Nat
  vs : List Value
  vp : Value
  vf : Value
def Lay.foot (L : Lay) (g : Nat) : List Nat := g :: L.bn :: L.bs :: (L.F ++ (L.X ++ (L.vp.ownBlock.toList ++ L.vf.ownBlock.toList)))
/-- What waits for a flush, as the program holds it: a function value over boxed variables. -/
def PnAt (w : World) (F X : List Nat) : Pn → Value → Prop
  | .cr n f, v => ∃ b c, v = .func (.func 88) #[] #[.pointer (some ⟨b, 0, none⟩), .pointer (some ⟨c, 0, none⟩)] ∧ b ∈ X ∧ c ∈ X ∧ Blk w b [.pointer (some ⟨fb F f, 0, none⟩)] 107 ∧ Blk w c [strV n] 9
  | .rn o n, v => ∃ b c, v = .func (.func 93) #[] #[.pointer (some ⟨b, 0, none⟩), .pointer (some ⟨c, 0, none⟩)] ∧ b ∈ X ∧ c ∈ X ∧ Blk w b [strV o] 9 ∧ Blk w c [strV n] 9
  | .rm n, v => ∃ c, v = .func (.func 96) #[] #[.pointer (some ⟨c, 0, none⟩)] ∧ c ∈ X ∧ Blk w c [strV n] 9
/-- All that waits. -/
def PnsAt (w : World) (F X : List Nat) : List Pn → List Value → Prop
  | [], [] => True
  | p :: l, v :: vs => PnAt w F X p v ∧ PnsAt w F X l vs
  | _, _ => False
def dkCells (L : Lay) (d : Dk) : List Value := [.bool d.off, .int .i64 d.room, .map (some L.bn), .map (some L.bs), L.vp, .int .i64 d.armed, L.vf]
def flCells (f : Fl) : List Value := [strV f.data, .int .i64 f.safe]
/-- All blocks are apart. -/
structure Apt (L : Lay) (g : Nat) : Prop where
  gbn : g ≠ L.bn
  gbs : g ≠ L.bs
  gF : g ∉ L.F
  gX : g ∉ L.X
  gvp : ∀ k, L.vp.ownBlock = some k → g ≠ k
  gvf : ∀ k, L.vf.ownBlock = some k → g ≠ k
  nbs : L.bn ≠ L.bs
  nF : L.bn ∉ L.F
  nX : L.bn ∉ L.X
  nvp : ∀ k, L.vp.ownBlock = some k → L.bn ≠ k
  nvf : ∀ k, L.vf.ownBlock = some k → L.bn ≠ k
  sF : L.bs ∉ L.F
  sX : L.bs ∉ L.X
  svp : ∀ k, L.vp.ownBlock = some k → L.bs ≠ k
  svf : ∀ k, L.vf.ownBlock = some k → L.bs ≠ k
  FF : L.F.Nodup
  FX : ∀ k ∈ L.X, k ∉ L.F
  Fvp : ∀ k, L.vp.ownBlock = some k → k ∉ L.F
  Fvf : ∀ k, L.vf.ownBlock = some k → k ∉ L.F
  Xvp : ∀ k, L.vp.ownBlock = some k → k ∉ L.X
  pf : ∀ k, L.vp.ownBlock = some k → L.vf.ownBlock ≠ some k
structure DiskIn (w : World) (g : Nat) (L : Lay) (d : Dk) (N : Nat) : Prop where
  blk : Blk w g (dkCells L d) 101
  now : MapIs w L.bn d.now L.F N
  safe : MapIs w L.bs d.safe L.F (N - d.pend.length)
  len : L.F.length = d.files.length
  files : ∀ i, i < d.files.length → Blk w (fb L.F i) (flCells (fat d.files i)) 111
  row : w.ownsRow 0 139 1 L.vp L.vs.length L.vs
  pend : PnsAt w L.F L.X d.pend L.vs
  boxes : ∀ x ∈ L.X, x < w.heap.size
  fate : w.ownsRow 0 3 1 L.vf d.fate.length (d.fate.map (Value.int .i64))
  apart : Apt L g

theorem Blk.same {w w' : World} {b : Nat} {xs : List Value} {t : TypeId} (h : Blk w b xs t) (he : w'.heap[b]? = w.heap[b]?) : Blk w' b xs t := he.trans h
theorem ownsRow_same {w w' : World} {base : Nat} {e : TypeId} {size : Nat} {v : Value} {n : Nat} {xs : List Value} (h : w.ownsRow base e size v n xs) (he : ∀ k, v.ownBlock = some k → w'.heap[k]? = w.heap[k]?) : w'.ownsRow base e size v n xs := by
  refine ⟨h.1, ?_⟩
  rcases h.2 with hn | ⟨g, cap, cur, rfl, hb, hg, rest⟩
  · exact Or.inl hn
  · exact Or.inr ⟨g, cap, cur, rfl, hb, (he g rfl).trans hg, rest⟩
theorem getD_mem {F : List Nat} {i : Nat} (h : i < F.length) : fb F i ∈ F := by
  unfold fb
  rw [List.getD_eq_getElem?_getD, List.getElem?_eq_getElem h]
  exact List.getElem_mem h
theorem getD_inj {F : List Nat} (hn : F.Nodup) {i j : Nat} (hi : i < F.length) (hj : j < F.length) (h : fb F i = fb F j) : i = j := by
  unfold fb at h
  rw [List.getD_eq_getElem?_getD, List.getD_eq_getElem?_getD, List.getElem?_eq_getElem hi, List.getElem?_eq_getElem hj] at h
  exact (List.getElem_inj hn).1 h

section
variable {w w' : World} {g : Nat} {L : Lay} {d : Dk} {N : Nat}
theorem foot_g : g ∈ L.foot g := List.mem_cons_self
theorem foot_bn : L.bn ∈ L.foot g := List.mem_cons_of_mem _ List.mem_cons_self
theorem foot_bs : L.bs ∈ L.foot g := List.mem_cons_of_mem _ (List.mem_cons_of_mem _ List.mem_cons_self)
theorem foot_F {k : Nat} (h : k ∈ L.F) : k ∈ L.foot g := List.mem_cons_of_mem _ (List.mem_cons_of_mem _ (List.mem_cons_of_mem _ (List.mem_append_left _ h)))
theorem foot_vp {k : Nat} (h : L.vp.ownBlock = some k) : k ∈ L.foot g := List.mem_cons_of_mem _ (List.mem_cons_of_mem _ (List.mem_cons_of_mem _ (List.mem_append_right _ (List.mem_append_right _ (List.mem_append_left _ (by rw [h]; simp))))))
theorem foot_X {k : Nat} (h : k ∈ L.X) : k ∈ L.foot g := List.mem_cons_of_mem _ (List.mem_cons_of_mem _ (List.mem_cons_of_mem _ (List.mem_append_right _ (List.mem_append_left _ h))))
theorem foot_vf {k : Nat} (h : L.vf.ownBlock = some k) : k ∈ L.foot g := List.mem_cons_of_mem _ (List.mem_cons_of_mem _ (List.mem_cons_of_mem _ (List.mem_append_right _ (List.mem_append_right _ (List.mem_append_right _ (by rw [h]; simp))))))
theorem foot_cases {k : Nat} (h : k ∈ L.foot g) : k = g ∨ k = L.bn ∨ k = L.bs ∨ k ∈ L.F ∨ k ∈ L.X ∨ L.vp.ownBlock = some k ∨ L.vf.ownBlock = some k := by
  unfold Lay.foot at h
  simp only [List.mem_cons, List.mem_append, Option.mem_toList] at h
  exact h
theorem PnAt.same {F X : List Nat} {p : Pn} {v : Value} (h : PnAt w F X p v) (hs : ∀ k ∈ X, w'.heap[k]? = w.heap[k]?) : PnAt w' F X p v := by
  cases p with
  | cr n f =>
    obtain ⟨b, c, e, hb, hc, h1, h2⟩ := h
    exact ⟨b, c, e, hb, hc, h1.same (hs b hb), h2.same (hs c hc)⟩
  | rn o n =>
    obtain ⟨b, c, e, hb, hc, h1, h2⟩ := h
    exact ⟨b, c, e, hb, hc, h1.same (hs b hb), h2.same (hs c hc)⟩
  | rm n =>
    obtain ⟨c, e, hc, h2⟩ := h
    exact ⟨c, e, hc, h2.same (hs c hc)⟩
theorem PnsAt.same {F X : List Nat} : ∀ {l : List Pn} {vs : List Value}, PnsAt w F X l vs → (∀ k ∈ X, w'.heap[k]? = w.heap[k]?) → PnsAt w' F X l vs
  | [], [], _, _ => trivial
  | _ :: _, _ :: _, h, hs => ⟨h.1.same hs, PnsAt.same h.2 hs⟩
  | [], _ :: _, h, _ => h.elim
  | _ :: _, [], h, _ => h.elim
theorem PnsAt.len {F X : List Nat} : ∀ {l : List Pn} {vs : List Value}, PnsAt w F X l vs → vs.length = l.length
  | [], [], _ => rfl
  | _ :: _, _ :: _, h => by rw [List.length_cons, List.length_cons, PnsAt.len h.2]
  | [], _ :: _, h => h.elim
  | _ :: _, [], h => h.elim
theorem PnsAt.at {F X : List Nat} : ∀ {l : List Pn} {vs : List Value}, PnsAt w F X l vs → ∀ (k : Nat) (p : Pn), l[k]? = some p → ∃ v, vs[k]? = some v ∧ PnAt w F X p v
  | [], [], _, k, p, hp => by simp at hp
  | q :: l, v :: vs, h, 0, p, hp => by
    have e : q = p := by simpa using hp
    exact ⟨v, rfl, e ▸ h.1⟩
  | q :: l, v :: vs, h, k + 1, p, hp => by
    obtain ⟨u, hu, hP⟩ := PnsAt.at h.2 k p (by simpa using hp)
    exact ⟨u, by simpa using hu, hP⟩
  | [], _ :: _, h, _, _, _ => h.elim
  | _ :: _, [], h, _, _, _ => h.elim
theorem PnAt.more {F X : List Nat} {p : Pn} {v : Value} (h : PnAt w F X p v) (hp : ∀ n f, p = .cr n f → f < F.length) (F' X' : List Nat) : PnAt w (F ++ F') (X ++ X') p v := by
  cases p with
  | cr n f =>
    obtain ⟨b, c, e, hb, hc, h1, h2⟩ := h
    refine ⟨b, c, e, List.mem_append_left _ hb, List.mem_append_left _ hc, ?_, h2⟩
    unfold fb at *
    rw [List.getD_eq_getElem?_getD, List.getElem?_append_left (hp n f rfl), ← List.getD_eq_getElem?_getD]
    exact h1
  | rn o n =>
    obtain ⟨b, c, e, hb, hc, h1, h2⟩ := h
    exact ⟨b, c, e, List.mem_append_left _ hb, List.mem_append_left _ hc, h1, h2⟩
  | rm n =>
    obtain ⟨c, e, hc, h2⟩ := h
    exact ⟨c, e, List.mem_append_left _ hc, h2⟩
theorem PnsAt.more {F X : List Nat} : ∀ {l : List Pn} {vs : List Value}, PnsAt w F X l vs → (∀ n f, Pn.cr n f ∈ l → f < F.length) → ∀ (F' X' : List Nat), PnsAt w (F ++ F') (X ++ X') l vs
  | [], [], _, _, _, _ => trivial
  | _ :: _, _ :: _, h, hp, F', X' => ⟨h.1.more (fun n f e => hp n f (by rw [e]; exact List.mem_cons_self)) F' X', PnsAt.more h.2 (fun n f e => hp n f (List.mem_cons_of_mem _ e)) F' X'⟩
  | [], _ :: _, h, _, _, _ => h.elim
  | _ :: _, [], h, _, _, _ => h.elim
theorem PnAt.wider {F X : List Nat} {p : Pn} {v : Value} (h : PnAt w F X p v) (X' : List Nat) : PnAt w F (X ++ X') p v := by
  cases p with
  | cr n f =>
    obtain ⟨b, c, e, hb, hc, h1, h2⟩ := h
    exact ⟨b, c, e, List.mem_append_left _ hb, List.mem_append_left _ hc, h1, h2⟩
  | rn o n =>
    obtain ⟨b, c, e, hb, hc, h1, h2⟩ := h
    exact ⟨b, c, e, List.mem_append_left _ hb, List.mem_append_left _ hc, h1, h2⟩
  | rm n =>
    obtain ⟨c, e, hc, h2⟩ := h
    exact ⟨c, e, List.mem_append_left _ hc, h2⟩
theorem PnsAt.wider {F X : List Nat} : ∀ {l : List Pn} {vs : List Value}, PnsAt w F X l vs → ∀ (X' : List Nat), PnsAt w F (X ++ X') l vs
  | [], [], _, _ => trivial
  | _ :: _, _ :: _, h, X' => ⟨h.1.wider X', PnsAt.wider h.2 X'⟩
  | [], _ :: _, h, _ => h.elim
  | _ :: _, [], h, _ => h.elim
theorem PnsAt.snoc {F X : List Nat} {p : Pn} {v : Value} (hv : PnAt w F X p v) : ∀ {l : List Pn} {vs : List Value}, PnsAt w F X l vs → PnsAt w F X (l ++ [p]) (vs ++ [v])
  | [], [], _ => ⟨hv, trivial⟩
  | _ :: _, _ :: _, h => ⟨h.1, PnsAt.snoc hv h.2⟩
  | [], _ :: _, h => h.elim
  | _ :: _, [], h => h.elim

theorem DiskIn.kept (h : DiskIn w g L d N) (hz : w.heap.size ≤ w'.heap.size) (hs : ∀ k ∈ L.foot g, w'.heap[k]? = w.heap[k]?) : DiskIn w' g L d N :=
  ⟨h.blk.same (hs _ foot_g), h.now.same (hs _ foot_bn), h.safe.same (hs _ foot_bs), h.len, fun i hi => (h.files i hi).same (hs _ (foot_F (getD_mem (by rw [h.len]; exact hi)))), ownsRow_same h.row fun k hk => hs _ (foot_vp hk), h.pend.same fun k hk => hs _ (foot_X hk), fun x hx => Nat.lt_of_lt_of_le (h.boxes x hx) hz, ownsRow_same h.fate fun k hk => hs _ (foot_vf hk), h.apart⟩
theorem DiskIn.lt (h : DiskIn w g L d N) : ∀ k ∈ L.foot g, k < w.heap.size := by
  intro k hk
  rcases foot_cases hk with rfl | rfl | rfl | hk | hk | hk | hk
  · exact h.blk.lt
  · exact h.now.lt
  · exact h.safe.lt
  · obtain ⟨i, hi, rfl⟩ := List.getElem_of_mem hk
    have := (h.files i (by rw [← h.len]; exact hi)).lt
    unfold fb at this
    rw [List.getD_eq_getElem?_getD, List.getElem?_eq_getElem hi] at this
    exact this
  · exact h.boxes k hk
  · exact (h.row.lt k hk).2
  · exact (h.fate.lt k hk).2
theorem DiskIn.below (h : DiskIn w g L d N) (hb : Below w.heap.size w w') : DiskIn w' g L d N := h.kept hb.size fun k hk => hb.block k (h.lt k hk)
theorem DiskIn.alloc (h : DiskIn w g L d N) (o : Obj) : DiskIn (w.alloc o) g L d N := h.below ((Below.refl _ _).alloc (Nat.le_refl _) o)
theorem DiskIn.drew (h : DiskIn w g L d N) : DiskIn w.drew g L d N := h.kept (Nat.le_refl _) fun _ _ => rfl
theorem DiskIn.drewN (h : DiskIn w g L d N) (n : Nat) : DiskIn (w.drewN n) g L d N := h.kept (Nat.le_refl _) fun _ _ => rfl
theorem DiskIn.setO (h : DiskIn w g L d N) (a : Addr) (ha : a.block ∉ L.foot g) (v : Value) : DiskIn (w.setCell a v) g L d N := h.kept (by simp [World.setCell]) fun k hk => Below.heap_setCell _ _ _ _ (fun e => ha (e ▸ hk))
theorem DiskIn.mono (h : DiskIn w g L d N) {M : Nat} (hm : N ≤ M) : DiskIn w g L d M := ⟨h.blk, h.now.mono hm, h.safe.mono (by omega), h.len, h.files, h.row, h.pend, h.boxes, h.fate, h.apart⟩
/-- Another disk's turn leaves it. -/
theorem DiskIn.other (h : DiskIn w g L d N) {A B : List Nat} (hs : Stp A B w w') (hA : ∀ k ∈ L.foot g, k ∉ A) : DiskIn w' g L d N := h.kept hs.size fun k hk => hs.block k (h.lt k hk) (hA k hk)
/-- A file is written. -/
theorem DiskIn.setFile (h : DiskIn w g L d N) {i : Nat} {f : Fl} (hi : i < d.files.length) (hb : Blk w' (fb L.F i) (flCells f) 111) (hz : w.heap.size ≤ w'.heap.size) (hs : ∀ k ∈ L.foot g, k ≠ fb L.F i → w'.heap[k]? = w.heap[k]?) : DiskIn w' g L { d with files := d.files.set i f } N := by
  have ap := h.apart
  have hiF : i < L.F.length := by rw [h.len]; exact hi
  have hm := getD_mem hiF
  refine ⟨h.blk.same (hs _ foot_g fun e => ap.gF (e ▸ hm)), h.now.same (hs _ foot_bn fun e => ap.nF (e ▸ hm)), h.safe.same (hs _ foot_bs fun e => ap.sF (e ▸ hm)), by rw [h.len]; exact List.length_set.symm, ?_, ownsRow_same h.row fun k hk => hs _ (foot_vp hk) fun e => ap.Fvp k hk (e ▸ hm), h.pend.same fun k hk => hs _ (foot_X hk) fun e => ap.FX k hk (e ▸ hm), fun x hx => Nat.lt_of_lt_of_le (h.boxes x hx) hz, ownsRow_same h.fate fun k hk => hs _ (foot_vf hk) fun e => ap.Fvf k hk (e ▸ hm), h.apart⟩
  intro j hj
  have hj' : j < d.files.length := by rw [← List.length_set (i := i) (a := f)]; exact hj
  show Blk w' (fb L.F j) (flCells (fat (d.files.set i f) j)) _
  rw [fat_set _ _ _ _ hi]
  by_cases e : i = j
  · rw [if_pos e, ← e]; exact hb
  · rw [if_neg e]
    exact (h.files j hj').same (hs _ (foot_F (getD_mem (by rw [h.len]; exact hj'))) fun e2 => e (getD_inj ap.FF hiF (by rw [h.len]; exact hj') e2.symm))
/-- The disk's own cells are written: off, armed. -/
theorem DiskIn.setHead (h : DiskIn w g L d N) {d' : Dk} (h1 : d'.now = d.now) (h2 : d'.safe = d.safe) (h3 : d'.files = d.files) (h4 : d'.pend = d.pend) (h5 : d'.fate = d.fate) (hb : Blk w' g (dkCells L d') 101) (hz : w.heap.size ≤ w'.heap.size) (hs : ∀ k ∈ L.foot g, k ≠ g → w'.heap[k]? = w.heap[k]?) : DiskIn w' g L d' N := by
  have ap := h.apart
  exact ⟨hb, by rw [h1]; exact h.now.same (hs _ foot_bn fun e => ap.gbn e.symm), by rw [h2, h4]; exact h.safe.same (hs _ foot_bs fun e => ap.gbs e.symm), by rw [h3]; exact h.len, by rw [h3]; exact fun i hi => (h.files i hi).same (hs _ (foot_F (getD_mem (by rw [h.len]; exact hi))) fun e => ap.gF (e ▸ getD_mem (by rw [h.len]; exact hi))), ownsRow_same h.row fun k hk => hs _ (foot_vp hk) fun e => ap.gvp k hk e.symm, by rw [h4]; exact h.pend.same fun k hk => hs _ (foot_X hk) fun e => ap.gX (e ▸ hk), fun x hx => Nat.lt_of_lt_of_le (h.boxes x hx) hz, by rw [h5]; exact ownsRow_same h.fate fun k hk => hs _ (foot_vf hk) fun e => ap.gvf k hk e.symm, h.apart⟩
/-- The table of now is written. -/
theorem DiskIn.setNow (h : DiskIn w g L d N) {t : Tb} {M : Nat} (hM : N ≤ M) (hb : MapIs w' L.bn t L.F M) (hz : w.heap.size ≤ w'.heap.size) (hs : ∀ k ∈ L.foot g, k ≠ L.bn → w'.heap[k]? = w.heap[k]?) : DiskIn w' g L { d with now := t } M := by
  have ap := h.apart
  exact ⟨h.blk.same (hs _ foot_g ap.gbn), hb, (h.safe.same (hs _ foot_bs fun e => ap.nbs e.symm)).mono (by show N - d.pend.length ≤ M - d.pend.length; omega), h.len, fun i hi => (h.files i hi).same (hs _ (foot_F (getD_mem (by rw [h.len]; exact hi))) fun e => ap.nF (e ▸ getD_mem (by rw [h.len]; exact hi))), ownsRow_same h.row fun k hk => hs _ (foot_vp hk) fun e => ap.nvp k hk e.symm, h.pend.same fun k hk => hs _ (foot_X hk) fun e => ap.nX (e ▸ hk), fun x hx => Nat.lt_of_lt_of_le (h.boxes x hx) hz, ownsRow_same h.fate fun k hk => hs _ (foot_vf hk) fun e => ap.nvf k hk e.symm, h.apart⟩
end
end Go.Proofs.YtfgpigblnkanpaaGreatDoor
