/- A disk held in memory within a footprint; its operations in that word. -/
import Derived.Test.YtfgpigblnkanpaaGreatDoorGE
import Derived.Test.YtfgpigblnkanpaaGreatDoorGF
namespace Go.Proofs.YtfgpigblnkanpaaGreatDoor
set_option linter.unusedVariables false
open Go.RowKit Go.Maps Go.Shelf

/-- A disk lies within the blocks A. -/
def Hd (w : World) (A : List Nat) (g : Nat) (d : Dk) (N : Nat) : Prop :=
  ∃ L : Lay, DiskIn w g L d N ∧ DkOk d ∧ DkB d N ∧ (∀ k ∈ L.foot g, k ∈ A) ∧ ∀ k ∈ A, k < w.heap.size
/-- Behind a call: the disk is d'; only its own blocks have turned. -/
def HdTo (g : Nat) (d' : Dk) (N : Nat) (A : List Nat) (w w' : World) : Prop := ∃ A', Hd w' A' g d' N ∧ Stp A A' w w'
def HdDo (g : Nat) (d : Dk) (o : Od) (N : Nat) (A : List Nat) (w : World) (e : Ending) (w' : World) : Prop :=
  e = .returned (errV (ddo d o).2) ∧ HdTo g (ddo d o).1 (N + 1) A w w'
section
variable {w w' : World} {A B B' : List Nat} {g : Nat} {d : Dk} {N : Nat}
theorem Hd.below (h : Hd w A g d N) (hb : Below w.heap.size w w') : Hd w' A g d N := by
  obtain ⟨L, h1, h2, h3, h4, h5⟩ := h
  exact ⟨L, h1.below hb, h2, h3, h4, fun k hk => Nat.lt_of_lt_of_le (h5 k hk) hb.size⟩
theorem Hd.drew (h : Hd w A g d N) : Hd w.drew A g d N := h.below ⟨rfl, rfl, rfl, Nat.le_refl _, fun _ _ => rfl⟩
theorem Hd.drewN (h : Hd w A g d N) (n : Nat) : Hd (w.drewN n) A g d N := h.below ⟨rfl, rfl, rfl, Nat.le_refl _, fun _ _ => rfl⟩
theorem Hd.other (h : Hd w A g d N) (hs : Stp B B' w w') (hAB : ∀ k ∈ A, k ∉ B) : Hd w' A g d N := by
  obtain ⟨L, h1, h2, h3, h4, h5⟩ := h
  exact ⟨L, h1.other hs (fun k hk => hAB k (h4 k hk)), h2, h3, h4, fun k hk => Nat.lt_of_lt_of_le (h5 k hk) hs.size⟩
theorem Hd.lt (h : Hd w A g d N) : ∀ k ∈ A, k < w.heap.size := by
  obtain ⟨L, h1, h2, h3, h4, h5⟩ := h
  exact h5
theorem Hd.ok (h : Hd w A g d N) : DkOk d := by
  obtain ⟨L, h1, h2, h3, h4, h5⟩ := h
  exact h2
theorem Hd.bd (h : Hd w A g d N) : DkB d N := by
  obtain ⟨L, h1, h2, h3, h4, h5⟩ := h
  exact h3
theorem Hd.set (h : Hd w A g d N) (a : Addr) (ha : a.block ∉ A) (v : Value) : Hd (w.setCell a v) A g d N := by
  obtain ⟨L, h1, h2, h3, h4, h5⟩ := h
  exact ⟨L, h1.setO a (fun hm => ha (h4 _ hm)) v, h2, h3, h4, fun k hk => by have := h5 k hk; simpa [World.setCell] using this⟩
theorem Hd.mono (h : Hd w A g d N) {M : Nat} (hm : N ≤ M) : Hd w A g d M := by
  obtain ⟨L, h1, h2, h3, h4, h5⟩ := h
  exact ⟨L, h1.mono hm, h2, h3.mono hm, h4, h5⟩
/-- Of a layout's words. -/
theorem Hd.stp {L L' : Lay} {d' : Dk} {N' : Nat} (h4 : ∀ k ∈ L.foot g, k ∈ A) (h5 : ∀ k ∈ A, k < w.heap.size) (h1 : DiskIn w' g L' d' N') (h2 : DkOk d') (h3 : DkB d' N') (hs : Stp (L.foot g) (L'.foot g) w w') : HdTo g d' N' A w w' :=
  ⟨L'.foot g, ⟨L', h1, h2, h3, fun _ hk => hk, h1.lt⟩, hs.wide h4⟩
theorem Hd.do {o : Od} {e : Ending} {L : Lay} (h4 : ∀ k ∈ L.foot g, k ∈ A) (h5 : ∀ k ∈ A, k < w.heap.size) (hk : DkOk d) (hb : DkB d N) (ho : odOk o) (h : DoPost g L d o N w e w') : HdDo g d o N A w e w' := by
  obtain ⟨he, L', h1, h2⟩ := h
  exact ⟨he, Hd.stp h4 h5 h1 (hk.do o) (hb.do hk o ho) h2⟩
end
variable {w : World} {A : List Nat} {g : Nat} {d : Dk} {N : Nat}
theorem Create_hd (h : Hd w A g d N) (hN : N + 1 < 4294967296) (n : Nm) (hn : n.length ≤ 9223372036854775807) : Calls Tryz.prog 30 #[.pointer (some ⟨g, 0, none⟩), strV n] w (HdDo g d (.create n) N A w) := by
  obtain ⟨L, h1, h2, h3, h4, h5⟩ := h
  exact (dkCreate_any w g L d N n h1 h2 h3 hN hn).mono fun e w' h => Hd.do h4 h5 h2 h3 hn h
theorem Sync_hd (h : Hd w A g d N) (hN : N + 1 < 4294967296) (n : Nm) (hn : n.length ≤ 9223372036854775807) : Calls Tryz.prog 15 #[.pointer (some ⟨g, 0, none⟩), strV n] w (HdDo g d (.sync n) N A w) := by
  obtain ⟨L, h1, h2, h3, h4, h5⟩ := h
  exact (dkSync_any w g L d N n h1 h2 h3 hN hn).mono fun e w' h => Hd.do h4 h5 h2 h3 hn h
theorem Remove_hd (h : Hd w A g d N) (hN : N + 1 < 4294967296) (n : Nm) (hn : n.length ≤ 9223372036854775807) : Calls Tryz.prog 34 #[.pointer (some ⟨g, 0, none⟩), strV n] w (HdDo g d (.remove n) N A w) := by
  obtain ⟨L, h1, h2, h3, h4, h5⟩ := h
  exact (dkRemove_any w g L d N n h1 h2 h3 hN hn).mono fun e w' h => Hd.do h4 h5 h2 h3 hn h
theorem Write_hd (h : Hd w A g d N) (hN : N + 1 < 4294967296) (n : Nm) (s : List UInt8) (hn : n.length ≤ 9223372036854775807) (hs : s.length ≤ 140737488355328) : Calls Tryz.prog 31 #[.pointer (some ⟨g, 0, none⟩), strV n, strV s] w (HdDo g d (.write n s) N A w) := by
  obtain ⟨L, h1, h2, h3, h4, h5⟩ := h
  exact (dkWrite_any w g L d N n s h1 h2 h3 hN hn hs).mono fun e w' h => Hd.do h4 h5 h2 h3 ⟨hn, by omega⟩ h
theorem Rename_hd (h : Hd w A g d N) (hN : N + 1 < 4294967296) (o n : Nm) (ho : o.length ≤ 9223372036854775807) (hn : n.length ≤ 9223372036854775807) : Calls Tryz.prog 33 #[.pointer (some ⟨g, 0, none⟩), strV o, strV n] w (HdDo g d (.rename o n) N A w) := by
  obtain ⟨L, h1, h2, h3, h4, h5⟩ := h
  exact (dkRename_any w g L d N o n h1 h2 h3 hN ho hn).mono fun e w' h => Hd.do h4 h5 h2 h3 ⟨ho, hn⟩ h
theorem Flush_hd (h : Hd w A g d N) (hN : N + 1 < 4294967296) : Calls Tryz.prog 16 #[.pointer (some ⟨g, 0, none⟩)] w (HdDo g d .flush N A w) := by
  obtain ⟨L, h1, h2, h3, h4, h5⟩ := h
  exact (dkFlush_any w g L d N h1 h2 h3 hN).mono fun e w' h => Hd.do h4 h5 h2 h3 trivial h
theorem Read_hd (h : Hd w A g d N) (n : Nm) (hn : n.length ≤ 9223372036854775807) : Calls Tryz.prog 21 #[.pointer (some ⟨g, 0, none⟩), strV n] w fun e w' => e = .returned (.tuple #[strV (dread d n).1, errV (dread d n).2]) ∧ w = w' := by
  obtain ⟨L, h1, h2, h3, h4, h5⟩ := h
  exact dkRead_any w g L d N n hn h1 h2
theorem Used_hd (h : Hd w A g d N) (hN : N < 4294967296) : Calls Tryz.prog 29 #[.pointer (some ⟨g, 0, none⟩)] w fun e w' => e = .returned (.int .i64 (dused d)) ∧ Below w.heap.size w w' := by
  obtain ⟨L, h1, h2, h3, h4, h5⟩ := h
  exact dkUsed_any w g L d N h1 h2 h3 hN
theorem List_hd (h : Hd w A g d N) (hN : N < 4294967296) (head : List UInt8) (hh : head.length ≤ 9223372036854775807) : Calls Tryz.prog 14 #[.pointer (some ⟨g, 0, none⟩), strV head] w (ListPost d head w) := by
  obtain ⟨L, h1, h2, h3, h4, h5⟩ := h
  exact dkList_any w g L d N head hh h1 h2 h3 hN
theorem Revive_hd (h : Hd w A g d N) : Calls Tryz.prog 19 #[.pointer (some ⟨g, 0, none⟩)] w fun e w' => e = .returned (.tuple #[]) ∧ HdTo g (drevive d) N A w w' := by
  obtain ⟨L, h1, h2, h3, h4, h5⟩ := h
  exact (dkRevive_any w g L d N h1).mono fun e w' ⟨he, h, hs⟩ => ⟨he, Hd.stp h4 h5 h ⟨h2.now, h2.safe, h2.nowIn, h2.safeIn, h2.pendIn, h2.safeLe⟩ ⟨h3.files, h3.now, h3.safe, h3.room, h3.data, h3.armed, h3.fate, h3.pend⟩ hs⟩
theorem dcrash_ok {d : Dk} (h : DkOk d) (keep : List Int) : DkOk (dcrash d keep) := by
  unfold dcrash
  split
  · exact h
  · exact h.fail keep
theorem dcrash_bd {d : Dk} (h : DkB d N) (hk : DkOk d) (keep : List Int) : DkB (dcrash d keep) N := by
  unfold dcrash
  split
  · exact h
  · exact h.fail hk keep
theorem Crash_hd (h : Hd w A g d N) (hN : N < 4294967296) (kv : Value) (keep : List Int) (hi : IntsAt w kv keep) (hkv : ∀ j, usesOf kv keep = some j → j < w.heap.size ∧ j ∉ A) : Calls Tryz.prog 18 #[.pointer (some ⟨g, 0, none⟩), .agg #[kv]] w fun e w' => e = .returned (.tuple #[]) ∧ HdTo g (dcrash d keep) N A w w' := by
  obtain ⟨L, h1, h2, h3, h4, h5⟩ := h
  exact (dkCrash_any w g L d N kv keep h1 h2 h3 hN hi (fun j hj => ⟨(hkv j hj).1, fun hm => (hkv j hj).2 (h4 j hm)⟩)).mono fun e w' ⟨he, L', h, hs⟩ => ⟨he, Hd.stp h4 h5 h (dcrash_ok h2 keep) (dcrash_bd h3 h2 keep) hs⟩
theorem Arm_hd (h : Hd w A g d N) (n : Int) (kv : Value) (keep : List Int) (hi : IntsAt w kv keep) (hl : keep.length * 8 ≤ 140737488355328) (hw : wf64 keep) (hn : n ≤ 9223372036854775807) (hkv : ∀ j, usesOf kv keep = some j → j < w.heap.size) : Calls Tryz.prog 26 #[.pointer (some ⟨g, 0, none⟩), .int .i64 n, .agg #[kv]] w fun e w' => e = .returned (.tuple #[]) ∧ HdTo g (darm d n keep) N A w w' := by
  obtain ⟨L, h1, h2, h3, h4, h5⟩ := h
  exact (dkArm_any w g L d N n kv keep h1 hi hl hkv).mono fun e w' ⟨he, L', h, hs⟩ => ⟨he, Hd.stp h4 h5 h ⟨h2.now, h2.safe, h2.nowIn, h2.safeIn, h2.pendIn, h2.safeLe⟩ ⟨h3.files, h3.now, h3.safe, h3.room, h3.data, by show (max n 0).toNat ≤ _; omega, hw, h3.pend⟩ hs⟩
theorem dnew_bd (r : Int) : DkB (dnew r) 0 := ⟨Nat.le_refl _, Nat.le_refl _, Nat.le_refl _, by show (min (max r 0) 268435456).toNat ≤ _; omega, fun f hf => (by cases hf), Nat.zero_le _, wf64_nil, fun p hp => (by cases hp)⟩
def NewHd (room : Int) (w : World) (e : Ending) (w' : World) : Prop := ∃ g A, e = .returned (.pointer (some ⟨g, 0, none⟩)) ∧ Hd w' A g (dnew room) 0 ∧ Below w.heap.size w w' ∧ ∀ k ∈ A, w.heap.size ≤ k
theorem New_hd (w : World) (room : Int) : Calls Tryz.prog 11 #[.int .i64 room] w (NewHd room w) :=
  (dkNew_any w room).mono fun e w' ⟨g, L, he, h, hb, hl⟩ => ⟨g, L.foot g, he, ⟨L, h, DkOk.new room, dnew_bd room, fun _ hk => hk, h.lt⟩, hb, hl⟩
end Go.Proofs.YtfgpigblnkanpaaGreatDoor
