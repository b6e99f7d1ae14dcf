/- A disk held in memory within a footprint; its operations in that word. The walks of what the statements on disks share: an operation of a script, lists of texts held against each other, what a disk shows. -/
import Derived.Test.YtfgpigblnkanpaaGreatDoorGE
import Derived.Test.YtfgpigblnkanpaaGreatDoorGF
namespace Go.Proofs.YtfgpigblnkanpaaGreatDoor
set_option linter.unusedVariables false
open Go.RowKit Go.Maps Go.Shelf

/-- A disk lies within the blocks A. -/
def Hd (w : World) (A : List Nat) (g : Nat) (d : Dk) (N : Nat) : Prop :=
  ∃ L : Lay, DiskIn w g L d N ∧ DkOk d ∧ DkB d N ∧ (∀ k ∈ L.foot g, k ∈ A) ∧ ∀ k ∈ A, k < w.heap.size
/-- Behind a call: the disk is d'; only its own blocks have turned. -/
def HdTo (g : Nat) (d' : Dk) (N : Nat) (A : List Nat) (w w' : World) : Prop := ∃ A', Hd w' A' g d' N ∧ Stp A A' w w'
def HdDo (g : Nat) (d : Dk) (o : Od) (N : Nat) (A : List Nat) (w : World) (e : Ending) (w' : World) : Prop :=
  e = .returned (errV (ddo d o).2) ∧ HdTo g (ddo d o).1 (N + 1) A w w'
section
variable {w w' : World} {A B B' : List Nat} {g : Nat} {d : Dk} {N : Nat}
theorem Hd.below (h : Hd w A g d N) (hb : Below w.heap.size w w') : Hd w' A g d N := by
  obtain ⟨L, h1, h2, h3, h4, h5⟩ := h
  exact ⟨L, h1.below hb, h2, h3, h4, fun k hk => Nat.lt_of_lt_of_le (h5 k hk) hb.size⟩
theorem Hd.drew (h : Hd w A g d N) : Hd w.drew A g d N := h.below ⟨rfl, rfl, rfl, Nat.le_refl _, fun _ _ => rfl⟩
theorem Hd.drewN (h : Hd w A g d N) (n : Nat) : Hd (w.drewN n) A g d N := h.below ⟨rfl, rfl, rfl, Nat.le_refl _, fun _ _ => rfl⟩
theorem Hd.other (h : Hd w A g d N) (hs : Stp B B' w w') (hAB : ∀ k ∈ A, k ∉ B) : Hd w' A g d N := by
  obtain ⟨L, h1, h2, h3, h4, h5⟩ := h
  exact ⟨L, h1.other hs (fun k hk => hAB k (h4 k hk)), h2, h3, h4, fun k hk => Nat.lt_of_lt_of_le (h5 k hk) hs.size⟩
theorem Hd.lt (h : Hd w A g d N) : ∀ k ∈ A, k < w.heap.size := by
  obtain ⟨L, h1, h2, h3, h4, h5⟩ := h
  exact h5
theorem Hd.ok (h : Hd w A g d N) : DkOk d := by
  obtain ⟨L, h1, h2, h3, h4, h5⟩ := h
  exact h2
theorem Hd.bd (h : Hd w A g d N) : DkB d N := by
  obtain ⟨L, h1, h2, h3, h4, h5⟩ := h
  exact h3
theorem Hd.set (h : Hd w A g d N) (a : Addr) (ha : a.block ∉ A) (v : Value) : Hd (w.setCell a v) A g d N := by
  obtain ⟨L, h1, h2, h3, h4, h5⟩ := h
  exact ⟨L, h1.setO a (fun hm => ha (h4 _ hm)) v, h2, h3, h4, fun k hk => by have := h5 k hk; simpa [World.setCell] using this⟩
theorem Hd.mono (h : Hd w A g d N) {M : Nat} (hm : N ≤ M) : Hd w A g d M := by
  obtain ⟨L, h1, h2, h3, h4, h5⟩ := h
  exact ⟨L, h1.mono hm, h2, h3.mono hm, h4, h5⟩
/-- Of a layout's words. -/
theorem Hd.stp {L L' : Lay} {d' : Dk} {N' : Nat} (h4 : ∀ k ∈ L.foot g, k ∈ A) (h5 : ∀ k ∈ A, k < w.heap.size) (h1 : DiskIn w' g L' d' N') (h2 : DkOk d') (h3 : DkB d' N') (hs : Stp (L.foot g) (L'.foot g) w w') : HdTo g d' N' A w w' :=
  ⟨L'.foot g, ⟨L', h1, h2, h3, fun _ hk => hk, h1.lt⟩, hs.wide h4⟩
theorem Hd.do {o : Od} {e : Ending} {L : Lay} (h4 : ∀ k ∈ L.foot g, k ∈ A) (h5 : ∀ k ∈ A, k < w.heap.size) (hk : DkOk d) (hb : DkB d N) (ho : odOk o) (h : DoPost g L d o N w e w') : HdDo g d o N A w e w' := by
  obtain ⟨he, L', h1, h2⟩ := h
  exact ⟨he, Hd.stp h4 h5 h1 (hk.do o) (hb.do hk o ho) h2⟩
end
variable {w : World} {A : List Nat} {g : Nat} {d : Dk} {N : Nat}
theorem Create_hd (h : Hd w A g d N) (hN : N + 1 < 4294967296) (n : Nm) (hn : n.length ≤ 9223372036854775807) : Calls Tryz.prog 30 #[.pointer (some ⟨g, 0, none⟩), strV n] w (HdDo g d (.create n) N A w) := by
  obtain ⟨L, h1, h2, h3, h4, h5⟩ := h
  exact (dkCreate_any w g L d N n h1 h2 h3 hN hn).mono fun e w' h => Hd.do h4 h5 h2 h3 hn h
theorem Sync_hd (h : Hd w A g d N) (hN : N + 1 < 4294967296) (n : Nm) (hn : n.length ≤ 9223372036854775807) : Calls Tryz.prog 15 #[.pointer (some ⟨g, 0, none⟩), strV n] w (HdDo g d (.sync n) N A w) := by
  obtain ⟨L, h1, h2, h3, h4, h5⟩ := h
  exact (dkSync_any w g L d N n h1 h2 h3 hN hn).mono fun e w' h => Hd.do h4 h5 h2 h3 hn h
theorem Remove_hd (h : Hd w A g d N) (hN : N + 1 < 4294967296) (n : Nm) (hn : n.length ≤ 9223372036854775807) : Calls Tryz.prog 34 #[.pointer (some ⟨g, 0, none⟩), strV n] w (HdDo g d (.remove n) N A w) := by
  obtain ⟨L, h1, h2, h3, h4, h5⟩ := h
  exact (dkRemove_any w g L d N n h1 h2 h3 hN hn).mono fun e w' h => Hd.do h4 h5 h2 h3 hn h
theorem Write_hd (h : Hd w A g d N) (hN : N + 1 < 4294967296) (n : Nm) (s : List UInt8) (hn : n.length ≤ 9223372036854775807) (hs : s.length ≤ 140737488355328) : Calls Tryz.prog 31 #[.pointer (some ⟨g, 0, none⟩), strV n, strV s] w (HdDo g d (.write n s) N A w) := by
  obtain ⟨L, h1, h2, h3, h4, h5⟩ := h
  exact (dkWrite_any w g L d N n s h1 h2 h3 hN hn hs).mono fun e w' h => Hd.do h4 h5 h2 h3 ⟨hn, by omega⟩ h
theorem Rename_hd (h : Hd w A g d N) (hN : N + 1 < 4294967296) (o n : Nm) (ho : o.length ≤ 9223372036854775807) (hn : n.length ≤ 9223372036854775807) : Calls Tryz.prog 33 #[.pointer (some ⟨g, 0, none⟩), strV o, strV n] w (HdDo g d (.rename o n) N A w) := by
  obtain ⟨L, h1, h2, h3, h4, h5⟩ := h
  exact (dkRename_any w g L d N o n h1 h2 h3 hN ho hn).mono fun e w' h => Hd.do h4 h5 h2 h3 ⟨ho, hn⟩ h
theorem Flush_hd (h : Hd w A g d N) (hN : N + 1 < 4294967296) : Calls Tryz.prog 16 #[.pointer (some ⟨g, 0, none⟩)] w (HdDo g d .flush N A w) := by
  obtain ⟨L, h1, h2, h3, h4, h5⟩ := h
  exact (dkFlush_any w g L d N h1 h2 h3 hN).mono fun e w' h => Hd.do h4 h5 h2 h3 trivial h
theorem Read_hd (h : Hd w A g d N) (n : Nm) (hn : n.length ≤ 9223372036854775807) : Calls Tryz.prog 21 #[.pointer (some ⟨g, 0, none⟩), strV n] w fun e w' => e = .returned (.tuple #[strV (dread d n).1, errV (dread d n).2]) ∧ w = w' := by
  obtain ⟨L, h1, h2, h3, h4, h5⟩ := h
  exact dkRead_any w g L d N n hn h1 h2
theorem Used_hd (h : Hd w A g d N) (hN : N < 4294967296) : Calls Tryz.prog 29 #[.pointer (some ⟨g, 0, none⟩)] w fun e w' => e = .returned (.int .i64 (dused d)) ∧ Below w.heap.size w w' := by
  obtain ⟨L, h1, h2, h3, h4, h5⟩ := h
  exact dkUsed_any w g L d N h1 h2 h3 hN
theorem List_hd (h : Hd w A g d N) (hN : N < 4294967296) (head : List UInt8) (hh : head.length ≤ 9223372036854775807) : Calls Tryz.prog 14 #[.pointer (some ⟨g, 0, none⟩), strV head] w (ListPost d head w) := by
  obtain ⟨L, h1, h2, h3, h4, h5⟩ := h
  exact dkList_any w g L d N head hh h1 h2 h3 hN
theorem Revive_hd (h : Hd w A g d N) : Calls Tryz.prog 19 #[.pointer (some ⟨g, 0, none⟩)] w fun e w' => e = .returned (.tuple #[]) ∧ HdTo g (drevive d) N A w w' := by
  obtain ⟨L, h1, h2, h3, h4, h5⟩ := h
  exact (dkRevive_any w g L d N h1).mono fun e w' ⟨he, h, hs⟩ => ⟨he, Hd.stp h4 h5 h ⟨h2.now, h2.safe, h2.nowIn, h2.safeIn, h2.pendIn, h2.safeLe⟩ ⟨h3.files, h3.now, h3.safe, h3.room, h3.data, h3.armed, h3.fate, h3.pend⟩ hs⟩
theorem dcrash_ok {d : Dk} (h : DkOk d) (keep : List Int) : DkOk (dcrash d keep) := by
  unfold dcrash
  split
  · exact h
  · exact h.fail keep
theorem dcrash_bd {d : Dk} (h : DkB d N) (hk : DkOk d) (keep : List Int) : DkB (dcrash d keep) N := by
  unfold dcrash
  split
  · exact h
  · exact h.fail hk keep
theorem Crash_hd (h : Hd w A g d N) (hN : N < 4294967296) (kv : Value) (keep : List Int) (hi : IntsAt w kv keep) (hkv : ∀ j, usesOf kv keep = some j → j < w.heap.size ∧ j ∉ A) : Calls Tryz.prog 18 #[.pointer (some ⟨g, 0, none⟩), .agg #[kv]] w fun e w' => e = .returned (.tuple #[]) ∧ HdTo g (dcrash d keep) N A w w' := by
  obtain ⟨L, h1, h2, h3, h4, h5⟩ := h
  exact (dkCrash_any w g L d N kv keep h1 h2 h3 hN hi (fun j hj => ⟨(hkv j hj).1, fun hm => (hkv j hj).2 (h4 j hm)⟩)).mono fun e w' ⟨he, L', h, hs⟩ => ⟨he, Hd.stp h4 h5 h (dcrash_ok h2 keep) (dcrash_bd h3 h2 keep) hs⟩
theorem Arm_hd (h : Hd w A g d N) (n : Int) (kv : Value) (keep : List Int) (hi : IntsAt w kv keep) (hl : keep.length * 8 ≤ 140737488355328) (hw : wf64 keep) (hn : n ≤ 9223372036854775807) (hkv : ∀ j, usesOf kv keep = some j → j < w.heap.size) : Calls Tryz.prog 26 #[.pointer (some ⟨g, 0, none⟩), .int .i64 n, .agg #[kv]] w fun e w' => e = .returned (.tuple #[]) ∧ HdTo g (darm d n keep) N A w w' := by
  obtain ⟨L, h1, h2, h3, h4, h5⟩ := h
  exact (dkArm_any w g L d N n kv keep h1 hi hl hkv).mono fun e w' ⟨he, L', h, hs⟩ => ⟨he, Hd.stp h4 h5 h ⟨h2.now, h2.safe, h2.nowIn, h2.safeIn, h2.pendIn, h2.safeLe⟩ ⟨h3.files, h3.now, h3.safe, h3.room, h3.data, by show (max n 0).toNat ≤ _; omega, hw, h3.pend⟩ hs⟩
theorem dnew_bd (r : Int) : DkB (dnew r) 0 := ⟨Nat.le_refl _, Nat.le_refl _, Nat.le_refl _, by show (min (max r 0) 268435456).toNat ≤ _; omega, fun f hf => (by cases hf), Nat.zero_le _, wf64_nil, fun p hp => (by cases hp)⟩
def NewHd (room : Int) (w : World) (e : Ending) (w' : World) : Prop := ∃ g A, e = .returned (.pointer (some ⟨g, 0, none⟩)) ∧ Hd w' A g (dnew room) 0 ∧ Below w.heap.size w w' ∧ ∀ k ∈ A, w.heap.size ≤ k
theorem New_hd (w : World) (room : Int) : Calls Tryz.prog 11 #[.int .i64 room] w (NewHd room w) :=
  (dkNew_any w room).mono fun e w' ⟨g, L, he, h, hb, hl⟩ => ⟨g, L.foot g, he, ⟨L, h, DkOk.new room, dnew_bd room, fun _ hk => hk, h.lt⟩, hb, hl⟩
end Go.Proofs.YtfgpigblnkanpaaGreatDoor

namespace Go.Proofs.YtfgpigblnkanpaaGreatDoor
set_option linter.unusedVariables false
open Go.RowKit Go.Maps Go.Shelf

theorem drewN_add (w : World) (a b : Nat) : (w.drewN a).drewN b = w.drewN (a + b) := by simp [World.drewN, Nat.add_assoc]
/-! ### rows that are read -/
/-- A slice that reads as these values, of one cell each. -/
def RowAt (w : World) (v : Value) (xs : List Value) : Prop :=
  (xs = [] ∧ v = .slice none 0 0) ∨ ∃ b off cap, v = .slice (some ⟨b, off, none⟩) xs.length cap ∧ ∀ k x, xs[k]? = some x → w.cell? ⟨b, off + k, none⟩ = some x
theorem RowAt.same {w w' : World} {v : Value} {l : List Value} (h : RowAt w v l) (hs : ∀ k, v.ownBlock = some k → w'.heap[k]? = w.heap[k]?) : RowAt w' v l := by
  rcases h with h | ⟨b, off, cap, rfl, h3⟩
  · exact Or.inl h
  · exact Or.inr ⟨b, off, cap, rfl, fun k x hx => (World.cell?_of_block (a := ⟨b, off + k, none⟩) (hs b rfl)).trans (h3 k x hx)⟩
theorem RowAt.of_row {w : World} {B : Nat} {e : TypeId} {v : Value} {n : Nat} {xs : List Value} (h : w.ownsRow B e 1 v n xs) : RowAt w v xs := by
  have hn := h.1
  rcases h.2 with ⟨rfl, h0⟩ | ⟨g, cap, cur, rfl, _, hg, h1, h2, h3, h4⟩
  · rw [List.eq_nil_of_length_eq_zero (by omega : xs.length = 0)]
    exact Or.inl ⟨rfl, rfl⟩
  · obtain rfl : n = xs.length := by omega
    refine Or.inr ⟨g, 0, cap, rfl, fun k x hx => ?_⟩
    have := World.ownsRow.cellAt h k (by have := (List.getElem?_eq_some_iff.1 hx).1; omega)
    rw [Nat.zero_add, this, hx]
theorem RowAt.shape {w : World} {v : Value} {l : List Value} (h : RowAt w v l) : ∃ a c, v = .slice a l.length c ∧ ∀ k x, l[k]? = some x → ∃ b off, a = some ⟨b, off, none⟩ ∧ w.cell? ⟨b, off + k, none⟩ = some x ∧ v.ownBlock = some b := by
  rcases h with ⟨rfl, rfl⟩ | ⟨b, off, cap, rfl, h3⟩
  · exact ⟨none, 0, rfl, fun k x hx => by simp at hx⟩
  · exact ⟨_, cap, rfl, fun k x hx => ⟨b, off, rfl, h3 k x hx, rfl⟩⟩
abbrev TextsAt (w : World) (v : Value) (l : List (List UInt8)) : Prop := RowAt w v (l.map strV)

set_option maxHeartbeats 1000000 in
set_option maxRecDepth 100000 in
theorem SameTexts_any (w : World) (v u : Value) (l m : List (List UInt8)) (hv : TextsAt w v l) (hu : TextsAt w u m) (hl : l.length ≤ 9223372036854775807) (_hm : m.length ≤ 9223372036854775807) :
    Calls Tryz.prog 69 #[v, u] w fun e w' => e = .returned (.bool (decide (l = m))) ∧ ∃ q, w' = w.drewN q := by
  obtain ⟨a, c, rfl, ha⟩ := hv.shape
  obtain ⟨b, c2, rfl, hb⟩ := hu.shape
  simp only [List.length_map] at *
  have HA := Lib.hid ha
  have HB := Lib.hid hb
  clear hv hu ha hb
  by_cases hlen : l.length = m.length
  · rw [hlen]
    have HL := Lib.hid hlen
    rw [hlen] at hl
    clear hlen
    go_enter Tryz.func69, Tryz.ntmps69
    go_wp2
    go_loopw [5] (fun i wr => ∃ k q : Nat, i = .int .i64 k ∧ k ≤ m.length ∧ Hid (l.take k = m.take k) ∧ wr = w.drewN q) (fun i _ => m.length - (intOf i).toNat)
    case atStart => exact ⟨0, 0, rfl, Nat.zero_le _, rfl, rfl⟩
    case round =>
      obtain ⟨k, q, rfl, hk, hE, rfl⟩ := hrel
      by_cases hlt : k < m.length
      · obtain ⟨x, hx⟩ : ∃ x, l[k]? = some x := ⟨_, List.getElem?_eq_getElem (by have := HL.out; omega)⟩
        obtain ⟨y, hy⟩ : ∃ y, m[k]? = some y := ⟨_, List.getElem?_eq_getElem hlt⟩
        obtain ⟨b1, o1, rfl, hc1, _⟩ := HA.out k (strV x) (by rw [List.getElem?_map, hx]; rfl)
        obtain ⟨b2, o2, rfl, hc2, _⟩ := HB.out k (strV y) (by rw [List.getElem?_map, hy]; rfl)
        have ht1 := toList_str x
        have ht2 := toList_str y
        have ik0 : (0 : Int) ≤ (k : Int) := by omega
        have ik1 : (k : Int) < (m.length : Int) := by omega
        have HX := Lib.hid hx
        have HY := Lib.hid hy
        clear hx hy
        by_cases hxy : x = y
        · subst hxy
          have hE2 : Hid (l.take (k + 1) = m.take (k + 1)) := by
            show _ = _
            rw [List.take_add_one, List.take_add_one, HX.out, HY.out, hE.out]
          clear ht1 ht2
          go_wp2
          go_quiet (fail)
          go_wp2
          go_roundw
          case rel => exact ⟨k + 1, _, by go_num, by omega, hE2, rfl⟩
          case measure => simp [intOf]; omega
        · have hq : ((str x).toList == (str y).toList) = false := by rw [ht1, ht2]; simpa using hxy
          have hne : l ≠ m := fun e => hxy (by
            have h1 := HX.out
            rw [e, HY.out] at h1
            exact (Option.some.inj h1).symm)
          have HN := Lib.hid hne
          clear hxy ht1 ht2 hne
          go_wp2
          go_quiet (fail)
          go_wp2
          go_ret
          exact ⟨by rw [decide_eq_false HN.out]; rfl, q + nq, drewN_add w q nq⟩
      · have he : l = m := by
          have h1 := hE.out
          rw [List.take_of_length_le (by have := HL.out; omega), List.take_of_length_le (by omega)] at h1
          exact h1
        have HE := Lib.hid he
        clear he
        go_wp2
        go_ret
        exact ⟨by rw [decide_eq_true HE.out]; rfl, _, rfl⟩
  · have hne : l ≠ m := fun e => hlen (by rw [e])
    have HN := Lib.hid hne
    clear hne
    have hq : ((l.length : Int) == (m.length : Int)) = false := by simp; omega
    have hq2 : ((l.length : Int) != (m.length : Int)) = true := by simp; omega
    clear hlen
    go_enter Tryz.func69, Tryz.ntmps69
    go_wp2
    go_ret
    exact ⟨by rw [decide_eq_false HN.out]; rfl, 0, rfl⟩

/-! ### an operation of a script -/
structure Sp where
  do_ : Int
  who : Int
  name : List UInt8
  data : List UInt8
  n : Int
  keep : List Int
def Sp.cells (s : Sp) (kv : Value) : List Value := [.int .i64 s.do_, .int .i64 s.who, strV s.name, strV s.data, .int .i64 s.n, kv]
def odOf (s : Sp) : Od :=
  if s.do_ = 1 then .create s.name else if s.do_ = 2 then .write s.name s.data else if s.do_ = 3 then .sync s.name else if s.do_ = 4 then .rename s.name s.data else if s.do_ = 5 then .remove s.name else .flush
theorem HdTo.from {w w1 w2 : World} {A : List Nat} {g : Nat} {d' : Dk} {N : Nat} (hb : Below w.heap.size w w1) (h : HdTo g d' N A w1 w2) : HdTo g d' N A w w2 := by
  obtain ⟨A', h1, h2⟩ := h
  exact ⟨A', h1, (Stp.of_below (A := A) (B := A) hb (fun k hk => Or.inl hk)).trans h2⟩
theorem odOf_n {s : Sp} (h1 : ¬ s.do_ = 1) (h2 : ¬ s.do_ = 2) (h3 : ¬ s.do_ = 3) (h4 : ¬ s.do_ = 4) : odOf s = if s.do_ = 5 then .remove s.name else .flush := by unfold odOf; rw [if_neg h1, if_neg h2, if_neg h3, if_neg h4]
theorem cellsStep : Tryz.prog.cellsOf 36 = 6 := by kernel_rfl
set_option maxHeartbeats 4000000 in
set_option maxRecDepth 100000 in
theorem operation_any (w : World) (A : List Nat) (g : Nat) (d : Dk) (N : Nat) (s : Sp) (kv : Value) (hkv : ∃ a n c, kv = .slice a n c) (h : Hd w A g d N) (hN : N + 1 < 4294967296) (h1 : s.name.length ≤ 140737488355328) (h2 : s.data.length ≤ 140737488355328) :
    Calls Tryz.prog 57 #[.pointer (some ⟨g, 0, none⟩), .agg (s.cells kv).toArray] w (HdDo g d (odOf s) N A w) := by
  obtain ⟨ka, kn, kc, rfl⟩ := hkv
  obtain ⟨do_, who, name, data, n, keep⟩ := s
  have hS : Below w.heap.size w (w.alloc (.cells ([Value.int .i64 do_, .int .i64 who, strV name, strV data, .int .i64 n, .slice ka kn kc]).toArray 36)) := (Below.refl _ w).alloc (Nat.le_refl _) _
  have hb := Blk.new w ([Value.int .i64 do_, .int .i64 who, strV name, strV data, .int .i64 n, .slice ka kn kc]) 36
  have k0 := hb.cell 0
  have k2 := hb.cell 2
  have k3 := hb.cell 3
  have H := Lib.hid (h.below hS)
  have HS := Lib.hid hS
  unfold Sp.cells
  simp only [List.getElem?_cons_zero, List.getElem?_cons_succ] at k0 k2 k3
  simp only at h1 h2 ⊢
  clear hS hb h
  by_cases e1 : do_ = 1
  · have ho : odOf ⟨do_, who, name, data, n, keep⟩ = .create name := by unfold odOf; simp only; rw [if_pos e1]
    rw [ho]
    subst e1
    have hC := Lib.hid (Create_hd H.out hN name (by omega))
    clear ho
    go_enter Tryz.func57, Tryz.ntmps57
    go_wp2_with (fail)
    refine hC.out.mono ?_
    rintro e w1 hp
    have HP := Lib.hid (HdTo.from HS.out hp.2)
    have HE := Lib.hid hp.1
    obtain ⟨rfl, -⟩ := hp
    go_wp2
    go_ret
    exact ⟨rfl, HP.out⟩
  · have q1 : (do_ == 1) = false := by simpa using e1
    by_cases e2 : do_ = 2
    · have ho : odOf ⟨do_, who, name, data, n, keep⟩ = .write name data := by unfold odOf; simp only; rw [if_neg e1, if_pos e2]
      rw [ho]
      subst e2
      have hC := Lib.hid (Write_hd H.out hN name data (by omega) (by omega))
      clear ho
      clear e1 q1
      go_enter Tryz.func57, Tryz.ntmps57
      go_wp2_with (fail)
      refine hC.out.mono ?_
      rintro e w1 hp
      have HP := Lib.hid (HdTo.from HS.out hp.2)
      have HE := Lib.hid hp.1
      obtain ⟨rfl, -⟩ := hp
      go_wp2
      go_ret
      exact ⟨rfl, HP.out⟩
    · have q2 : (do_ == 2) = false := by simpa using e2
      by_cases e3 : do_ = 3
      · have ho : odOf ⟨do_, who, name, data, n, keep⟩ = .sync name := by unfold odOf; simp only; rw [if_neg e1, if_neg e2, if_pos e3]
        rw [ho]
        subst e3
        have hC := Lib.hid (Sync_hd H.out hN name (by omega))
        clear ho
        clear e1 q1 e2 q2
        go_enter Tryz.func57, Tryz.ntmps57
        go_wp2_with (fail)
        refine hC.out.mono ?_
        rintro e w1 hp
        have HP := Lib.hid (HdTo.from HS.out hp.2)
        have HE := Lib.hid hp.1
        obtain ⟨rfl, -⟩ := hp
        go_wp2
        go_ret
        exact ⟨rfl, HP.out⟩
      · have q3 : (do_ == 3) = false := by simpa using e3
        by_cases e4 : do_ = 4
        · have ho : odOf ⟨do_, who, name, data, n, keep⟩ = .rename name data := by unfold odOf; simp only; rw [if_neg e1, if_neg e2, if_neg e3, if_pos e4]
          rw [ho]
          subst e4
          have hC := Lib.hid (Rename_hd H.out hN name data (by omega) (by omega))
          clear ho
          clear e1 q1 e2 q2 e3 q3
          go_enter Tryz.func57, Tryz.ntmps57
          go_wp2_with (fail)
          refine hC.out.mono ?_
          rintro e w1 hp
          have HP := Lib.hid (HdTo.from HS.out hp.2)
          have HE := Lib.hid hp.1
          obtain ⟨rfl, -⟩ := hp
          go_wp2
          go_ret
          exact ⟨rfl, HP.out⟩
        · have q4 : (do_ == 4) = false := by simpa using e4
          by_cases e5 : do_ = 5
          · have ho : odOf ⟨do_, who, name, data, n, keep⟩ = .remove name := by unfold odOf; simp only; rw [if_neg e1, if_neg e2, if_neg e3, if_neg e4, if_pos e5]
            rw [ho]
            subst e5
            have hC := Lib.hid (Remove_hd H.out hN name (by omega))
            clear ho
            clear e1 q1 e2 q2 e3 q3 e4 q4
            go_enter Tryz.func57, Tryz.ntmps57
            go_wp2_with (fail)
            refine hC.out.mono ?_
            rintro e w1 hp
            have HP := Lib.hid (HdTo.from HS.out hp.2)
            have HE := Lib.hid hp.1
            obtain ⟨rfl, -⟩ := hp
            go_wp2
            go_ret
            exact ⟨rfl, HP.out⟩
          · have q5 : (do_ == 5) = false := by simpa using e5
            have ho : odOf ⟨do_, who, name, data, n, keep⟩ = .flush := by unfold odOf; simp only; rw [if_neg e1, if_neg e2, if_neg e3, if_neg e4, if_neg e5]
            rw [ho]
            have hC := Lib.hid (Flush_hd H.out hN)
            clear ho e1 e2 e3 e4 e5
            go_enter Tryz.func57, Tryz.ntmps57
            go_wp2_with (fail)
            refine hC.out.mono ?_
            rintro e w1 hp
            have HP := Lib.hid (HdTo.from HS.out hp.2)
            have HE := Lib.hid hp.1
            obtain ⟨rfl, -⟩ := hp
            go_wp2
            go_ret
            exact ⟨rfl, HP.out⟩
end Go.Proofs.YtfgpigblnkanpaaGreatDoor
