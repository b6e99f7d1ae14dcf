/- The document's disk: Arm; a table, a fate laid anew. The document's disk within a footprint. The document's disk: the power fails. -/
import Derived.Test.YtfgpigblnkanpaaGreatDoorRg
import Derived.Test.YtfgpigblnkanpaaGreatDoorHC
import Derived.Deep.RegionWith
namespace Go.Proofs.YtfgpigblnkanpaaGreatDoor
open Go.RowKit Go.Maps Go.Shelf
set_option linter.unusedVariables false

theorem RefIn.fvLt {w : World} {g : Nat} {fv nv sv pv kv : Value} {d : Dk} (h : RefIn w g fv nv sv pv kv d) : ∀ b, fv.ownBlock = some b → b < w.heap.size := fun b hb => (h.files.lt b hb).2
theorem RefIn.pvLt {w : World} {g : Nat} {fv nv sv pv kv : Value} {d : Dk} (h : RefIn w g fv nv sv pv kv d) : ∀ b, pv.ownBlock = some b → b < w.heap.size := fun b hb => (h.pend.lt b hb).2
/-- The safe table laid anew: a row that was the safe one's, or a new one. -/
theorem RefIn.laySafe {w w2 : World} {g : Nat} {fv nv sv pv kv : Value} {d : Dk} (h : RefIn w g fv nv sv pv kv d) (hb : Below w.heap.size w w2) {v : Value} {t : Tb} (ht : TabAt w2 v t) (hv : ∀ b, v.ownBlock = some b → w.heap.size ≤ b ∨ sv.ownBlock = some b) :
    RefIn (w2.setCell ⟨g, 4, none⟩ v) g fv nv v pv kv { d with safe := t } := by
  have h2 := h.below hb
  have hg := h.blk.lt
  have hs : ∀ j, j ≠ g → (w2.setCell ⟨g, 4, none⟩ v).heap[j]? = w2.heap[j]? := fun j hj => heap_setCell_other _ _ _ _ hj
  have hvg : v.ownBlock ≠ some g := fun e => by
    rcases hv g e with h3 | h3
    · omega
    · exact h.gs h3
  refine ⟨h2.blk.set 4 v, ownsRow_same h2.files fun k hk => hs k (fun e => h.gf (e ▸ hk)), h2.now.same fun k hk => hs k (fun e => h.gn (e ▸ hk)), ht.same fun k hk => hs k (fun e => hvg (e ▸ hk)), ownsRow_same h2.pend fun k hk => hs k (fun e => h.gp (e ▸ hk)), h2.fate.same fun k hk => hs k (fun e => h.gk (e ▸ usesOf_own hk)), h.gf, h.gn, hvg, h.gp, h.gk, fun b hb => ⟨(h.fn b hb).1, fun e => ?_, (h.fn b hb).2.2⟩, fun b hb => ⟨(h.pn b hb).1, fun e => ?_, (h.pn b hb).2.2⟩⟩
  · rcases hv b e with h3 | h3
    · have := h.fvLt b hb; omega
    · exact (h.fn b hb).2.1 h3
  · rcases hv b e with h3 | h3
    · have := h.pvLt b hb; omega
    · exact (h.pn b hb).2.1 h3
/-- A fate laid anew, in a new row. -/
theorem RefIn.layFate {w w2 : World} {g : Nat} {fv nv sv pv kv : Value} {d : Dk} (h : RefIn w g fv nv sv pv kv d) (hb : Below w.heap.size w w2) {v : Value} {l : List Int} (ht : IntsAt w2 v l) (hv : ∀ b, v.ownBlock = some b → w.heap.size ≤ b) :
    RefIn (w2.setCell ⟨g, 7, none⟩ v) g fv nv sv pv v { d with fate := l } := by
  have h2 := h.below hb
  have hg := h.blk.lt
  have hs : ∀ j, j ≠ g → (w2.setCell ⟨g, 7, none⟩ v).heap[j]? = w2.heap[j]? := fun j hj => heap_setCell_other _ _ _ _ hj
  have hvg : v.ownBlock ≠ some g := fun e => by have := hv g e; omega
  refine ⟨h2.blk.set 7 v, ownsRow_same h2.files fun k hk => hs k (fun e => h.gf (e ▸ hk)), h2.now.same fun k hk => hs k (fun e => h.gn (e ▸ hk)), h2.safe.same fun k hk => hs k (fun e => h.gs (e ▸ hk)), ownsRow_same h2.pend fun k hk => hs k (fun e => h.gp (e ▸ hk)), ht.same fun k hk => hs k (fun e => hvg (e ▸ usesOf_own hk)), h.gf, h.gn, h.gs, h.gp, hvg, fun b hb => ⟨(h.fn b hb).1, (h.fn b hb).2.1, (h.fn b hb).2.2.1, fun e => ?_⟩, fun b hb => ⟨(h.pn b hb).1, (h.pn b hb).2.1, fun e => ?_⟩⟩
  · have := h.fvLt b hb; have := hv b e; omega
  · have := h.pvLt b hb; have := hv b e; omega
set_option maxHeartbeats 4000000 in
set_option maxRecDepth 100000 in
theorem rArm_any (w : World) (g : Nat) (fv nv sv pv kv av : Value) (d : Dk) (n : Int) (keep : List Int) (h : RefIn w g fv nv sv pv kv d) (hi : IntsAt w av keep) (hl : keep.length ≤ 4294967296) (ha : ∀ j, usesOf av keep = some j → j ≠ g) :
    Calls Tryz.prog 76 #[.pointer (some ⟨g, 0, none⟩), .int .i64 n, av] w fun e w' => e = .returned (.tuple #[]) ∧ ∃ kv', RefIn w' g fv nv sv pv kv' (darm d n keep) ∧ (∀ b, kv'.ownBlock = some b → w.heap.size ≤ b ∧ b < w'.heap.size) ∧ w.heap.size ≤ w'.heap.size ∧ (w'.os = w.os ∧ w'.tape = w.tape ∧ w'.output = w.output) ∧ ∀ j, j < w.heap.size → j ≠ g → w'.heap[j]? = w.heap[j]? := by
  obtain ⟨c0, c1, c2, c3, c4, c5, c6, c7⟩ := h.cells
  have hf6 := h.blk.free 6
  have e1 : max n 0 = (((max n 0).toNat : Nat) : Int) := by omega
  have hg := h.blk.lt
  have hs : ∀ j, j ≠ g → (w.setCell ⟨g, 6, none⟩ (.int .i64 (max n 0))).heap[j]? = w.heap[j]? := fun j hj => heap_setCell_other _ _ _ _ hj
  have h1 : RefIn (w.setCell ⟨g, 6, none⟩ (.int .i64 (max n 0))) g fv nv sv pv kv { d with armed := (max n 0).toNat } := h.turn (by have := h.blk.set 6 (.int .i64 (max n 0)); rw [e1] at this ⊢; exact this) hs rfl rfl rfl rfl rfl
  have hi1 : IntsAt (w.setCell ⟨g, 6, none⟩ (.int .i64 (max n 0))) av keep := hi.same fun k hk => hs k (ha k hk)
  have HC := Lib.hid (rCopyInts_any _ av keep hi1 hl)
  obtain ⟨ka, kn, kc, rfl⟩ := hi.shape
  have H1 := Lib.hid h1
  have HS := Lib.hid hs
  have hsz : (w.setCell ⟨g, 6, none⟩ (.int .i64 (max n 0))).heap.size = w.heap.size := by simp [World.setCell]
  have HSZ := Lib.hid hsz
  clear h hi hi1 h1 hs e1 hsz
  go_enter Tryz.func76, Tryz.ntmps76
  go_wp2_with (fail)
  refine HC.out.mono ?_
  rintro e w2 ⟨v', rfl, hrow, hb2⟩
  have h2 := H1.out.below hb2
  have hf7 := h2.blk.free 7
  have d7 := h2.cells.2.2.2.2.2.2.2
  have hv : ∀ b, v'.ownBlock = some b → w.heap.size ≤ b := fun b hb => by have := (hrow.lt b hb).1; rw [HSZ.out] at this; exact this
  have h3 := H1.out.layFate hb2 (IntsAt.of_row (row_base hrow)) (fun b hb => by rw [HSZ.out]; exact hv b hb)
  obtain ⟨va, vc, rfl, -⟩ := row_open hrow
  have hfin : ∃ kv', RefIn (w2.setCell ⟨g, 7, none⟩ (.slice va keep.length vc)) g fv nv sv pv kv' (darm d n keep) ∧ (∀ b, kv'.ownBlock = some b → w.heap.size ≤ b ∧ b < (w2.setCell ⟨g, 7, none⟩ (.slice va keep.length vc)).heap.size) ∧ w.heap.size ≤ (w2.setCell ⟨g, 7, none⟩ (.slice va keep.length vc)).heap.size ∧ ((w2.setCell ⟨g, 7, none⟩ (.slice va keep.length vc)).os = w.os ∧ (w2.setCell ⟨g, 7, none⟩ (.slice va keep.length vc)).tape = w.tape ∧ (w2.setCell ⟨g, 7, none⟩ (.slice va keep.length vc)).output = w.output) ∧ ∀ j, j < w.heap.size → j ≠ g → (w2.setCell ⟨g, 7, none⟩ (.slice va keep.length vc)).heap[j]? = w.heap[j]? :=
    ⟨_, h3, fun b hb => ⟨hv b hb, by have := (hrow.lt b hb).2; simpa [World.setCell] using this⟩, by have h4 := hb2.size; rw [HSZ.out] at h4; simpa [World.setCell] using h4, ⟨hb2.os, hb2.tape, hb2.output⟩, fun j hj hjg => (heap_setCell_other _ _ _ _ hjg).trans ((hb2.block j (by rw [HSZ.out]; exact hj)).trans (HS.out j hjg))⟩
  have HFIN := Lib.hid hfin
  clear h2 h3 hrow hb2 hv hfin
  go_wp2
  go_end0
  exact ⟨rfl, HFIN.out⟩
end Go.Proofs.YtfgpigblnkanpaaGreatDoor

namespace Go.Proofs.YtfgpigblnkanpaaGreatDoor
open Go.RowKit Go.Maps Go.Shelf
set_option linter.unusedVariables false

def rfoot (g : Nat) (fv nv sv pv kv : Value) : List Nat := g :: (fv.ownBlock.toList ++ (nv.ownBlock.toList ++ (sv.ownBlock.toList ++ (pv.ownBlock.toList ++ kv.ownBlock.toList))))
theorem rfoot_mem {g k : Nat} {fv nv sv pv kv : Value} : k ∈ rfoot g fv nv sv pv kv ↔ k = g ∨ fv.ownBlock = some k ∨ nv.ownBlock = some k ∨ sv.ownBlock = some k ∨ pv.ownBlock = some k ∨ kv.ownBlock = some k := by
  unfold rfoot
  simp [eq_comm]
/-- What holds of the document's disk besides its layout. -/
structure RefN (d : Dk) (N : Nat) : Prop where
  ok : DkOk d
  bd : DkB d N
  fate : d.fate.length ≤ 4294967296
theorem RefN.refB {d : Dk} {N : Nat} (h : RefN d N) (hN : N ≤ 1073741824) : RefB d :=
  ⟨h.ok, by have := h.bd.now; omega, by have := h.bd.files; omega, Nat.le_trans (dused_le d N h.bd) (Nat.le_trans (Nat.mul_le_mul_right _ hN) (by decide)), h.bd.room⟩
theorem RefN.mono {d : Dk} {N M : Nat} (h : RefN d N) (hm : N ≤ M) : RefN d M := ⟨h.ok, h.bd.mono hm, h.fate⟩
/-- The document's disk lies within the blocks A. -/
def Rd2 (w : World) (A : List Nat) (g : Nat) (d : Dk) (N : Nat) : Prop := ∃ fv nv sv pv kv, RefIn w g fv nv sv pv kv d ∧ RefN d N ∧ (∀ k ∈ rfoot g fv nv sv pv kv, k ∈ A) ∧ ∀ k ∈ A, k < w.heap.size
def Rd2To (g : Nat) (d' : Dk) (N : Nat) (A : List Nat) (w w' : World) : Prop := ∃ A', Rd2 w' A' g d' N ∧ Stp A A' w w'
section
variable {w w' : World} {A B B' : List Nat} {g : Nat} {d d' : Dk} {N : Nat}
theorem Rd2.below (h : Rd2 w A g d N) (hb : Below w.heap.size w w') : Rd2 w' A g d N := by
  obtain ⟨fv, nv, sv, pv, kv, h1, h2, h3, h4⟩ := h
  exact ⟨fv, nv, sv, pv, kv, h1.below hb, h2, h3, fun k hk => Nat.lt_of_lt_of_le (h4 k hk) hb.size⟩
theorem Rd2.lt (h : Rd2 w A g d N) : ∀ k ∈ A, k < w.heap.size := by
  obtain ⟨fv, nv, sv, pv, kv, h1, h2, h3, h4⟩ := h
  exact h4
theorem Rd2.bd (h : Rd2 w A g d N) : RefN d N := by
  obtain ⟨fv, nv, sv, pv, kv, h1, h2, h3, h4⟩ := h
  exact h2
theorem Rd2.mono (h : Rd2 w A g d N) {M : Nat} (hm : N ≤ M) : Rd2 w A g d M := by
  obtain ⟨fv, nv, sv, pv, kv, h1, h2, h3, h4⟩ := h
  exact ⟨fv, nv, sv, pv, kv, h1, h2.mono hm, h3, h4⟩
theorem RefIn.kept {fv nv sv pv kv : Value} (h : RefIn w g fv nv sv pv kv d) (hs : ∀ k ∈ rfoot g fv nv sv pv kv, w'.heap[k]? = w.heap[k]?) : RefIn w' g fv nv sv pv kv d :=
  ⟨h.blk.same (hs g (rfoot_mem.2 (Or.inl rfl))), ownsRow_same h.files fun k hk => hs k (rfoot_mem.2 (by simp [hk])), h.now.same fun k hk => hs k (rfoot_mem.2 (by simp [hk])), h.safe.same fun k hk => hs k (rfoot_mem.2 (by simp [hk])), ownsRow_same h.pend fun k hk => hs k (rfoot_mem.2 (by simp [hk])), h.fate.same fun k hk => hs k (rfoot_mem.2 (by simp [usesOf_own hk])), h.gf, h.gn, h.gs, h.gp, h.gk, h.fn, h.pn⟩
theorem Rd2.other (h : Rd2 w A g d N) (hs : Stp B B' w w') (hAB : ∀ k ∈ A, k ∉ B) : Rd2 w' A g d N := by
  obtain ⟨fv, nv, sv, pv, kv, h1, h2, h3, h4⟩ := h
  exact ⟨fv, nv, sv, pv, kv, h1.kept (fun k hk => hs.block k (h4 k (h3 k hk)) (hAB k (h3 k hk))), h2, h3, fun k hk => Nat.lt_of_lt_of_le (h4 k hk) hs.size⟩
end
theorem dnew_refN (room : Int) : RefN (dnew room) 0 := ⟨DkOk.new room, dnew_bd room, Nat.zero_le _⟩
theorem rNew_rd (w : World) (room : Int) : Calls Tryz.prog 22 #[.int .i64 room] w fun e w' => ∃ g, e = .returned (.pointer (some ⟨g, 0, none⟩)) ∧ Rd2 w' [g] g (dnew room) 0 ∧ w.heap.size ≤ g ∧ Below w.heap.size w w' :=
  (rNew_any w room).mono fun e w' ⟨g, he, hg, h, hb⟩ => ⟨g, he, ⟨_, _, _, _, _, h, dnew_refN room, fun k hk => by rcases rfoot_mem.1 hk with h | h | h | h | h | h <;> simp [Value.ownBlock] at h ⊢; exact h, fun k hk => by simp at hk; subst hk; exact h.blk.lt⟩, hg, hb⟩
theorem rRead_rd {w : World} {A : List Nat} {g : Nat} {d : Dk} {N : Nat} (h : Rd2 w A g d N) (hN : N ≤ 1073741824) (n : Nm) : Calls Tryz.prog 72 #[.pointer (some ⟨g, 0, none⟩), strV n] w fun e w' => e = .returned (.tuple #[strV (dread d n).1, .int .i64 ((dread d n).2 : Nat)]) ∧ Below w.heap.size w w' := by
  obtain ⟨fv, nv, sv, pv, kv, h1, h2, h3, h4⟩ := h
  exact rRead_any w g fv nv sv pv kv d n h1 h2.ok (by have := h2.bd.now; omega) (by have := h2.bd.files; omega)
theorem rUsed_rd {w : World} {A : List Nat} {g : Nat} {d : Dk} {N : Nat} (h : Rd2 w A g d N) (hN : N ≤ 1073741824) : Calls Tryz.prog 80 #[.pointer (some ⟨g, 0, none⟩)] w fun e w' => e = .returned (.int .i64 (dused d : Nat)) ∧ ∃ q, w' = w.drewN q := by
  obtain ⟨fv, nv, sv, pv, kv, h1, h2, h3, h4⟩ := h
  have h5 := h2.refB hN
  exact rUsed_any w g fv nv sv pv kv d h1 h2.ok (by have := h5.now; omega) (by have := h5.files; omega) (by have := h5.sum; omega)
theorem drevive_refN {d : Dk} {N : Nat} (h : RefN d N) : RefN (drevive d) N :=
  ⟨⟨h.ok.now, h.ok.safe, h.ok.nowIn, h.ok.safeIn, h.ok.pendIn, h.ok.safeLe⟩, ⟨h.bd.files, h.bd.now, h.bd.safe, h.bd.room, h.bd.data, h.bd.armed, h.bd.fate, h.bd.pend⟩, h.fate⟩
theorem darm_refN {d : Dk} {N : Nat} (h : RefN d N) (n : Int) (keep : List Int) (hn : n ≤ 9223372036854775807) (hw : wf64 keep) (hl : keep.length ≤ 4294967296) : RefN (darm d n keep) N :=
  ⟨⟨h.ok.now, h.ok.safe, h.ok.nowIn, h.ok.safeIn, h.ok.pendIn, h.ok.safeLe⟩, ⟨h.bd.files, h.bd.now, h.bd.safe, h.bd.room, h.bd.data, by show (max n 0).toNat ≤ _; omega, hw, h.bd.pend⟩, hl⟩
theorem dfail_refN {d : Dk} {N : Nat} (h : RefN d N) (keep : List Int) : RefN (dfail d keep) N := ⟨h.ok.fail keep, h.bd.fail h.ok keep, Nat.zero_le _⟩
theorem rRevive_rd {w : World} {A : List Nat} {g : Nat} {d : Dk} {N : Nat} (h : Rd2 w A g d N) : Calls Tryz.prog 79 #[.pointer (some ⟨g, 0, none⟩)] w fun e w' => e = .returned (.tuple #[]) ∧ Rd2To g (drevive d) N A w w' := by
  obtain ⟨fv, nv, sv, pv, kv, h1, h2, h3, h4⟩ := h
  refine (rRevive_any w g fv nv sv pv kv d h1).mono fun e w' ⟨he, h5, hw⟩ => ⟨he, rfoot g fv nv sv pv kv, ⟨fv, nv, sv, pv, kv, h5, drevive_refN h2, fun k hk => hk, fun k hk => by rw [hw]; have := h4 k (h3 k hk); simpa [World.setCell] using this⟩, ?_⟩
  rw [hw]
  exact Stp.of_set _ _ _ (h3 g (rfoot_mem.2 (Or.inl rfl))) (fun k hk => Or.inl (h3 k hk))
theorem rArm_rd {w : World} {A : List Nat} {g : Nat} {d : Dk} {N : Nat} (h : Rd2 w A g d N) (n : Int) (av : Value) (keep : List Int) (hi : IntsAt w av keep) (hl : keep.length ≤ 4294967296) (hn : n ≤ 9223372036854775807) (hw : wf64 keep) (ha : ∀ j, usesOf av keep = some j → j ≠ g) : Calls Tryz.prog 76 #[.pointer (some ⟨g, 0, none⟩), .int .i64 n, av] w fun e w' => e = .returned (.tuple #[]) ∧ Rd2To g (darm d n keep) N A w w' := by
  obtain ⟨fv, nv, sv, pv, kv, h1, h2, h3, h4⟩ := h
  refine (rArm_any w g fv nv sv pv kv av d n keep h1 hi hl ha).mono fun e w' ⟨he, kv', h5, h6, h7, ⟨h8, h9, h10⟩, h11⟩ => ⟨he, rfoot g fv nv sv pv kv', ⟨fv, nv, sv, pv, kv', h5, darm_refN h2 n keep hn hw hl, fun k hk => hk, fun k hk => ?_⟩, ⟨h8, h9, h10, h7, fun k hk hn => h11 k hk (fun e => hn (e ▸ h3 g (rfoot_mem.2 (Or.inl rfl)))), fun k hk => ?_⟩⟩
  · rcases rfoot_mem.1 hk with h | h | h | h | h | h
    · exact Nat.lt_of_lt_of_le (h4 k (h3 k (rfoot_mem.2 (by simp [h])))) h7
    · exact Nat.lt_of_lt_of_le (h4 k (h3 k (rfoot_mem.2 (by simp [h])))) h7
    · exact Nat.lt_of_lt_of_le (h4 k (h3 k (rfoot_mem.2 (by simp [h])))) h7
    · exact Nat.lt_of_lt_of_le (h4 k (h3 k (rfoot_mem.2 (by simp [h])))) h7
    · exact Nat.lt_of_lt_of_le (h4 k (h3 k (rfoot_mem.2 (by simp [h])))) h7
    · exact (h6 k h).2
  · rcases rfoot_mem.1 hk with h | h | h | h | h | h
    · exact Or.inl (h3 k (rfoot_mem.2 (by simp [h])))
    · exact Or.inl (h3 k (rfoot_mem.2 (by simp [h])))
    · exact Or.inl (h3 k (rfoot_mem.2 (by simp [h])))
    · exact Or.inl (h3 k (rfoot_mem.2 (by simp [h])))
    · exact Or.inl (h3 k (rfoot_mem.2 (by simp [h])))
    · exact Or.inr (h6 k h).1
end Go.Proofs.YtfgpigblnkanpaaGreatDoor

namespace Go.Proofs.YtfgpigblnkanpaaGreatDoor
open Go.RowKit Go.Maps Go.Shelf
set_option linter.unusedVariables false

theorem opCells_four (p : Pn) : ∃ a b c e, opCells p = [a, b, c, e] := by cases p <;> exact ⟨_, _, _, _, rfl⟩
theorem cellsO_at : ∀ (t : List Pn) (k : Nat) (x : Pn) (j : Nat) (u : Value), t[k]? = some x → (opCells x)[j]? = some u → (cellsO t)[k * 4 + j]? = some u
  | [], k, x, j, u, h, _ => by simp at h
  | y :: t, 0, x, j, u, h, hu => by
    simp at h
    subst h
    have hj : j < (opCells y).length := (List.getElem?_eq_some_iff.1 hu).1
    show (opCells y ++ cellsO t)[0 * 4 + j]? = _
    rw [Nat.zero_mul, Nat.zero_add, List.getElem?_append_left hj]
    exact hu
  | y :: t, k + 1, x, j, u, h, hu => by
    have := cellsO_at t k x j u (by simpa using h) hu
    obtain ⟨a, b, c, e, hy⟩ := opCells_four y
    show (opCells y ++ cellsO t)[(k + 1) * 4 + j]? = _
    rw [hy, show (k + 1) * 4 + j = k * 4 + j + 1 + 1 + 1 + 1 from by omega]
    simpa using this
theorem cellsO_len : ∀ t : List Pn, (cellsO t).length = t.length * 4
  | [] => rfl
  | x :: t => by
    have := cellsO_len t
    obtain ⟨a, b, c, e, hy⟩ := opCells_four x
    show (opCells x ++ cellsO t).length = _
    rw [List.length_append, hy, this]
    simp only [List.length_cons, List.length_nil]
    omega
theorem RefIn.pendAt {w : World} {g : Nat} {fv nv sv pv kv : Value} {d : Dk} (h : RefIn w g fv nv sv pv kv d) {i : Nat} {p : Pn} (hi : d.pend[i]? = some p) :
    ∃ b cap, pv = .slice (some ⟨b, 0, none⟩) d.pend.length cap ∧ ∀ j u, (opCells p)[j]? = some u → w.cell? ⟨b, i * 4 + j, none⟩ = some u := by
  have hil := (List.getElem?_eq_some_iff.1 hi).1
  rcases h.pend.2 with ⟨_, h0⟩ | ⟨b, cap, cur, rfl, _, hg, h1, h2, h3, h4⟩
  · omega
  · refine ⟨b, cap, rfl, fun j u hu => ?_⟩
    have hx := cellsO_at d.pend i p j u hi hu
    have hj := (List.getElem?_eq_some_iff.1 hx).1
    rw [← h4] at hx
    rw [List.getElem?_take_of_lt (by rw [cellsO_len] at hj; omega)] at hx
    unfold World.cell?
    simp only [hg]
    simpa using hx
theorem RefIn.pvShape {w : World} {g : Nat} {fv nv sv pv kv : Value} {d : Dk} (h : RefIn w g fv nv sv pv kv d) : ∃ a c, pv = .slice a d.pend.length c := by
  rcases h.pend.2 with ⟨rfl, h0⟩ | ⟨b, cap, cur, rfl, _, hg, h1, h2, h3, h4⟩
  · exact ⟨none, 0, by rw [h0]⟩
  · exact ⟨_, _, rfl⟩
/-- Between the rounds of the first loop. -/
structure Fail1 (w : World) (g : Nat) (fv nv sv pv kv : Value) (d : Dk) (keep : List Int) (k : Nat) (wr : World) : Prop where
  ex : ∃ sv' t, RefIn wr g fv nv sv' pv kv { d with safe := t } ∧ dpend keep (d.pend.drop k) k t = dpend keep d.pend 0 d.safe ∧ Rise t ∧ t.length ≤ d.safe.length + k ∧ (∀ x ∈ t, x.2 < d.files.length) ∧ ∀ b, sv'.ownBlock = some b → (w.heap.size ≤ b ∧ b < wr.heap.size) ∨ sv.ownBlock = some b
  size : w.heap.size ≤ wr.heap.size
  os : wr.os = w.os ∧ wr.tape = w.tape ∧ wr.output = w.output
  block : ∀ j, j < w.heap.size → j ≠ g → wr.heap[j]? = w.heap[j]?
theorem tdone_in {t : Tb} {p : Pn} {n : Nat} (ht : ∀ x ∈ t, x.2 < n) (hp : ∀ m f, p = .cr m f → f < n) : ∀ x ∈ tdone t p, x.2 < n := by
  intro x hx
  cases p with
  | cr m f =>
    rcases List.mem_append.1 hx with h | h
    · exact ht x (List.mem_filter.1 h).1
    · rcases List.mem_cons.1 h with rfl | h
      · exact hp m f rfl
      · exact ht x (List.mem_filter.1 h).1
  | rm m => exact ht x (List.mem_filter.1 hx).1
  | rn o m =>
    simp only [tdone] at hx
    cases hg : tget t o with
    | none => rw [hg] at hx; exact ht x hx
    | some f =>
      rw [hg] at hx
      rcases List.mem_append.1 hx with h | h
      · exact ht x (List.mem_filter.1 (List.mem_filter.1 h).1).1
      · rcases List.mem_cons.1 h with rfl | h
        · exact ht (o, f) (tget_mem hg)
        · exact ht x (List.mem_filter.1 (List.mem_filter.1 h).1).1
theorem cellsF_set : ∀ (t : List Fl) (i : Nat) (f : Fl), i < t.length → cellsF (t.set i f) = ((cellsF t).set (i * 2) (strV f.data)).set (i * 2 + 1) (.int .i64 (f.safe : Nat))
  | [], i, f, h => by simp at h
  | y :: t, 0, f, h => rfl
  | y :: t, i + 1, f, h => by
    have := cellsF_set t i f (by simpa using h)
    rw [show (i + 1) * 2 = i * 2 + 1 + 1 from by omega]
    show strV y.data :: Value.int .i64 (y.safe : Nat) :: cellsF (t.set i f) = ((strV y.data :: Value.int .i64 (y.safe : Nat) :: cellsF t).set (i * 2 + 1 + 1) (strV f.data)).set (i * 2 + 1 + 1 + 1) (.int .i64 (f.safe : Nat))
    rw [this]
    rfl
/-- A file laid anew. -/
theorem RefIn.layFile {w w2 : World} {g : Nat} {fv nv sv pv kv : Value} {d : Dk} (h : RefIn w g fv nv sv pv kv d) (hbl : Below w.heap.size w w2) {i b cap : Nat} (hi : i < d.files.length) (hfv : fv = .slice (some ⟨b, 0, none⟩) d.files.length cap) (f : Fl) :
    RefIn ((w2.setCell ⟨b, i * 2, none⟩ (strV f.data)).setCell ⟨b, i * 2 + 1, none⟩ (.int .i64 (f.safe : Nat))) g fv nv sv pv kv { d with files := d.files.set i f } := by
  have h2 := h.below hbl
  have hs : ∀ j, j ≠ b → ((w2.setCell ⟨b, i * 2, none⟩ (strV f.data)).setCell ⟨b, i * 2 + 1, none⟩ (.int .i64 (f.safe : Nat))).heap[j]? = w2.heap[j]? := fun j hj => (heap_setCell_other _ _ _ _ hj).trans (heap_setCell_other _ _ _ _ hj)
  have hob : fv.ownBlock = some b := by rw [hfv]; rfl
  have hgb : g ≠ b := fun e => h.gf (by rw [hob, e])
  have hfb := h.fn b hob
  refine ⟨h2.blk.same (hs g hgb), ?_, h2.now.same fun k hk => hs k (fun e => hfb.1 (e ▸ hk)), h2.safe.same fun k hk => hs k (fun e => hfb.2.1 (e ▸ hk)), ownsRow_same h2.pend fun k hk => hs k (fun e => hfb.2.2.1 (e ▸ hk)), h2.fate.same fun k hk => hs k (fun e => hfb.2.2.2 (e ▸ usesOf_own hk)), h.gf, h.gn, h.gs, h.gp, h.gk, h.fn, h.pn⟩
  have hF := h2.files
  rw [hfv] at hF ⊢
  show World.ownsRow _ 0 162 2 _ (d.files.set i f).length (cellsF (d.files.set i f))
  rw [List.length_set, cellsF_set _ _ _ hi]
  exact ((hF.stored (i * 2) _).1.stored (i * 2 + 1) _).1
/-- Between the rounds of the second loop. -/
structure Fail2 (w : World) (g : Nat) (fv nv sv pv kv : Value) (d : Dk) (keep : List Int) (T : Tb) (k : Nat) (wr : World) : Prop where
  ex : ∃ fs, RefIn wr g fv nv sv pv kv { d with safe := T, files := fs } ∧ dfiles keep (T.drop k) (d.pend.length + k) fs = dfiles keep T d.pend.length d.files ∧ fs.length = d.files.length ∧ ∀ f ∈ fs, f.safe ≤ f.data.length ∧ f.data.length ≤ 268435456
  size : w.heap.size ≤ wr.heap.size
  os : wr.os = w.os ∧ wr.tape = w.tape ∧ wr.output = w.output
  block : ∀ j, j < w.heap.size → j ≠ g → fv.ownBlock ≠ some j → wr.heap[j]? = w.heap[j]?
theorem tb_drop_at {l : Tb} {k : Nat} {x : Nm × Nat} (hp : l[k]? = some x) : l.drop k = x :: l.drop (k + 1) := by
  have hlt := (List.getElem?_eq_some_iff.1 hp).1
  rw [List.drop_eq_getElem_cons hlt]
  congr 1
  rw [List.getElem?_eq_getElem hlt] at hp
  simpa using hp
theorem Fail2.act {w wr w2 : World} {g : Nat} {fv nv sv pv kv : Value} {d : Dk} {keep : List Int} {T : Tb} {k : Nat} (h : Fail2 w g fv nv sv pv kv d keep T k wr) {fs : List Fl} (hr : RefIn wr g fv nv sv pv kv { d with safe := T, files := fs }) (hd : dfiles keep (T.drop k) (d.pend.length + k) fs = dfiles keep T d.pend.length d.files) (hl : fs.length = d.files.length)
    (hf : ∀ f ∈ fs, f.safe ≤ f.data.length ∧ f.data.length ≤ 268435456) {x : Nm × Nat} (hx : T[k]? = some x) (hxi : x.2 < fs.length) {b cap : Nat} (hfv : fv = .slice (some ⟨b, 0, none⟩) fs.length cap) (hbl : Below wr.heap.size wr w2) :
    Fail2 w g fv nv sv pv kv d keep T (k + 1) ((w2.setCell ⟨b, x.2 * 2, none⟩ (strV (dleft (fat fs x.2) (keepAt keep (d.pend.length + k))))).setCell ⟨b, x.2 * 2 + 1, none⟩ (.int .i64 ((dleft (fat fs x.2) (keepAt keep (d.pend.length + k))).length : Nat))) := by
  rw [tb_drop_at hx, dfiles] at hd
  have h1 := hr.layFile hbl hxi hfv (dcut (fat fs x.2) (keepAt keep (d.pend.length + k)))
  have hob : fv.ownBlock = some b := by rw [hfv]; rfl
  have h3 := h.size
  have hs2 := hbl.size
  refine ⟨⟨_, h1, hd, by rw [List.length_set]; exact hl, fun f hf2 => ?_⟩, by simpa [World.setCell] using Nat.le_trans h3 hs2, ⟨hbl.os.trans h.os.1, hbl.tape.trans h.os.2.1, hbl.output.trans h.os.2.2⟩, fun j hj hjg hjf => ?_⟩
  · rcases List.mem_or_eq_of_mem_set hf2 with h4 | rfl
    · exact hf f h4
    · have h5 := hf _ (fat_mem hxi)
      exact ⟨Nat.le_refl _, Nat.le_trans (dleft_short _ _ h5.1) h5.2⟩
  · have hjb : j ≠ b := fun e => hjf (by rw [hob, e])
    exact ((heap_setCell_other _ _ _ _ hjb).trans (heap_setCell_other _ _ _ _ hjb)).trans ((hbl.block j (by omega)).trans (h.block j hj hjg hjf))
theorem IntsAt.len {w : World} {v : Value} {l : List Int} (h : IntsAt w v l) : ∃ a c, v = .slice a l.length c := by
  rcases h with ⟨rfl, a, cap, rfl⟩ | ⟨b, off, cap, rfl, _⟩
  · exact ⟨_, _, rfl⟩
  · exact ⟨_, _, rfl⟩
theorem IntsAt.at {w : World} {v : Value} {l : List Int} (h : IntsAt w v l) {k : Nat} {x : Int} (hx : l[k]? = some x) : ∃ b off cap, v = .slice (some ⟨b, off, none⟩) l.length cap ∧ w.cell? ⟨b, off + k, none⟩ = some (.int .i64 x) := by
  rcases h with ⟨rfl, a, cap, rfl⟩ | ⟨b, off, cap, rfl, _, _, h4⟩
  · simp at hx
  · exact ⟨b, off, cap, rfl, h4 k x hx⟩
theorem keepAt_some {keep : List Int} {k : Nat} {x : Int} (h : keep[k]? = some x) : keepAt keep k = x := by unfold keepAt; rw [List.getD_eq_getElem?_getD, h]; rfl
theorem keepAt_none {keep : List Int} {k : Nat} (h : ¬ k < keep.length) : keepAt keep k = 0 := by unfold keepAt; rw [List.getD_eq_getElem?_getD, List.getElem?_eq_none (by omega)]; rfl
section
variable {w wr : World} {g : Nat} {fv nv sv pv kv : Value} {d : Dk} {keep : List Int} {k : Nat} {p : Pn}
theorem drop_at {l : List Pn} (hp : l[k]? = some p) : l.drop k = p :: l.drop (k + 1) := by
  have hlt := (List.getElem?_eq_some_iff.1 hp).1
  rw [List.drop_eq_getElem_cons hlt]
  congr 1
  rw [List.getElem?_eq_getElem hlt] at hp
  simpa using hp
theorem Fail1.skip (h : Fail1 w g fv nv sv pv kv d keep k wr) (hp : d.pend[k]? = some p) (hb : ¬ keepAt keep k % 2 = 1) : Fail1 w g fv nv sv pv kv d keep (k + 1) wr := by
  obtain ⟨sv', t, hr, hdp, hrise, htl, hin, hsv⟩ := h.ex
  rw [drop_at hp, dpend, if_neg hb] at hdp
  exact ⟨⟨sv', t, hr, hdp, hrise, by omega, hin, hsv⟩, h.size, h.os, h.block⟩
theorem Fail1.act (hok : DkOk d) (h : Fail1 w g fv nv sv pv kv d keep k wr) {sv' : Value} {t : Tb} (hr : RefIn wr g fv nv sv' pv kv { d with safe := t }) (hdp : dpend keep (d.pend.drop k) k t = dpend keep d.pend 0 d.safe) (hrise : Rise t) (htl : t.length ≤ d.safe.length + k) (hin : ∀ x ∈ t, x.2 < d.files.length)
    (hsv : ∀ b, sv'.ownBlock = some b → (w.heap.size ≤ b ∧ b < wr.heap.size) ∨ sv.ownBlock = some b) (hp : d.pend[k]? = some p) (hb : keepAt keep k % 2 = 1) {v' : Value} {w2 : World} (hT : TabAt w2 v' (tdone t p)) (hv : ∀ b, v'.ownBlock = some b → (wr.heap.size ≤ b ∧ b < w2.heap.size) ∨ sv'.ownBlock = some b) (hbl : Below wr.heap.size wr w2) :
    Fail1 w g fv nv sv pv kv d keep (k + 1) (w2.setCell ⟨g, 4, none⟩ v') := by
  rw [drop_at hp, dpend, if_pos hb] at hdp
  have h1 := hr.laySafe hbl hT (fun b hb => (hv b hb).imp (·.1) id)
  have hs2 := hbl.size
  refine ⟨⟨v', tdone t p, h1, hdp, hrise.done p, ?_, tdone_in hin (fun m f e => hok.pendIn m f (e ▸ List.mem_of_getElem? hp)), fun b hb => ?_⟩, ?_, ⟨hbl.os.trans h.os.1, hbl.tape.trans h.os.2.1, hbl.output.trans h.os.2.2⟩, fun j hj hjg => ?_⟩
  · have := tdone_len t p; omega
  · have h3 := h.size
    have h4 : (w2.setCell ⟨g, 4, none⟩ v').heap.size = w2.heap.size := by simp [World.setCell]
    rw [h4]
    rcases hv b hb with h5 | h5
    · exact Or.inl ⟨by omega, h5.2⟩
    · rcases hsv b h5 with h6 | h6
      · exact Or.inl ⟨h6.1, by omega⟩
      · exact Or.inr h6
  · have h3 := h.size
    have h4 : (w2.setCell ⟨g, 4, none⟩ v').heap.size = w2.heap.size := by simp [World.setCell]
    rw [h4]
    omega
  · exact (heap_setCell_other _ _ _ _ hjg).trans ((hbl.block j (by have := h.size; omega)).trans (h.block j hj hjg))
end
theorem Fail2.drew {w wr : World} {g : Nat} {fv nv sv pv kv : Value} {d : Dk} {keep : List Int} {T : Tb} {k : Nat} (h : Fail2 w g fv nv sv pv kv d keep T k wr) : Fail2 w g fv nv sv pv kv d keep T k wr.drew := by
  obtain ⟨fs, hr, h2, h3, h4⟩ := h.ex
  exact ⟨⟨fs, hr.below ((Below.refl _ _).drew), h2, h3, h4⟩, h.size, h.os, h.block⟩
def failWorld (w : World) (g : Nat) (sv : Value) : World := ((((w.setCell ⟨g, 3, none⟩ sv).setCell ⟨g, 5, none⟩ (.slice none 0 0)).setCell ⟨g, 0, none⟩ (.bool true)).setCell ⟨g, 6, none⟩ (.int .i64 0)).setCell ⟨g, 7, none⟩ (.slice none 0 0)
theorem failWorld_other {w : World} {g j : Nat} {sv : Value} (h : j ≠ g) : (failWorld w g sv).heap[j]? = w.heap[j]? := by
  unfold failWorld
  exact (heap_setCell_other _ _ _ _ h).trans ((heap_setCell_other _ _ _ _ h).trans ((heap_setCell_other _ _ _ _ h).trans ((heap_setCell_other _ _ _ _ h).trans (heap_setCell_other _ _ _ _ h))))
theorem failWorld_size (w : World) (g : Nat) (sv : Value) : (failWorld w g sv).heap.size = w.heap.size := by simp [failWorld, World.setCell]
theorem setCell_osR (w : World) (a : Addr) (v : Value) : (w.setCell a v).os = w.os := rfl
theorem setCell_tapeR (w : World) (a : Addr) (v : Value) : (w.setCell a v).tape = w.tape := rfl
theorem setCell_outputR (w : World) (a : Addr) (v : Value) : (w.setCell a v).output = w.output := rfl
theorem failWorld_os (w : World) (g : Nat) (sv : Value) : (failWorld w g sv).os = w.os ∧ (failWorld w g sv).tape = w.tape ∧ (failWorld w g sv).output = w.output := by
  unfold failWorld
  simp only [setCell_osR, setCell_tapeR, setCell_outputR, and_self]
theorem RefIn.fin {w : World} {g : Nat} {fv nv sv pv kv : Value} {d : Dk} (h : RefIn w g fv nv sv pv kv d) : RefIn (failWorld w g sv) g fv sv sv (.slice none 0 0) (.slice none 0 0) { d with off := true, now := d.safe, pend := [], armed := 0, fate := [] } := by
  have hs : ∀ j, j ≠ g → (failWorld w g sv).heap[j]? = w.heap[j]? := fun j hj => failWorld_other hj
  refine ⟨((((h.blk.set 3 sv).set 5 (.slice none 0 0)).set 0 (.bool true)).set 6 (.int .i64 0)).set 7 (.slice none 0 0), ownsRow_same h.files fun k hk => hs k (fun e => h.gf (e ▸ hk)), h.safe.same fun k hk => hs k (fun e => h.gs (e ▸ hk)), h.safe.same fun k hk => hs k (fun e => h.gs (e ▸ hk)), World.ownsRow_nil _ _ _ _, IntsAt.nil _ _ _, h.gf, h.gs, h.gs, by simp [Value.ownBlock], by simp [Value.ownBlock], fun b hb => ⟨(h.fn b hb).2.1, (h.fn b hb).2.1, by simp [Value.ownBlock], by simp [Value.ownBlock]⟩, fun b hb => by simp [Value.ownBlock] at hb⟩
/-- What Fail leaves. -/
def RFailPost (w : World) (g : Nat) (fv sv : Value) (d' : Dk) (e : Ending) (w' : World) : Prop :=
  e = .returned (.tuple #[]) ∧ ∃ sv', RefIn w' g fv sv' sv' (.slice none 0 0) (.slice none 0 0) d' ∧ (∀ b, sv'.ownBlock = some b → (w.heap.size ≤ b ∧ b < w'.heap.size) ∨ sv.ownBlock = some b) ∧ w.heap.size ≤ w'.heap.size ∧ (w'.os = w.os ∧ w'.tape = w.tape ∧ w'.output = w.output) ∧ ∀ j, j < w.heap.size → j ≠ g → fv.ownBlock ≠ some j → w'.heap[j]? = w.heap[j]?
theorem Fail2.fin {w wr : World} {g : Nat} {fv nv sv sv0 pv kv : Value} {d : Dk} {keep : List Int} {T : Tb} (hT : T = dpend keep d.pend 0 d.safe) (h : Fail2 w g fv nv sv pv kv d keep T T.length wr) (hsv : ∀ b, sv.ownBlock = some b → (w.heap.size ≤ b ∧ b < wr.heap.size) ∨ sv0.ownBlock = some b) :
    RFailPost w g fv sv0 (dfail d keep) (.returned (.tuple #[])) (failWorld wr g sv) := by
  subst hT
  obtain ⟨fs, hr, hd, hl, hf⟩ := h.ex
  rw [List.drop_length, dfiles] at hd
  have h1 := hr.fin
  refine ⟨rfl, sv, ?_, fun b hb => by rw [failWorld_size]; exact hsv b hb, by rw [failWorld_size]; exact h.size, ?_, fun j hj hjg hjf => (failWorld_other hjg).trans (h.block j hj hjg hjf)⟩
  · unfold dfail
    rw [← hd]
    exact h1
  · have e := failWorld_os wr g sv
    exact ⟨e.1.trans h.os.1, e.2.1.trans h.os.2.1, e.2.2.trans h.os.2.2⟩
end Go.Proofs.YtfgpigblnkanpaaGreatDoor
