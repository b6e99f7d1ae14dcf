/- The walks of what the statements on disks share: an operation of a script, lists of texts held against each other, what a disk shows. -/
import Derived.Test.YtfgpigblnkanpaaGreatDoorHd
namespace Go.Proofs.YtfgpigblnkanpaaGreatDoor
set_option linter.unusedVariables false
open Go.RowKit Go.Maps Go.Shelf

theorem drewN_add (w : World) (a b : Nat) : (w.drewN a).drewN b = w.drewN (a + b) := by simp [World.drewN, Nat.add_assoc]
/-! ### rows that are read -/
/-- A slice that reads as these values, of one cell each. -/
def RowAt (w : World) (v : Value) (xs : List Value) : Prop :=
  (xs = [] ∧ v = .slice none 0 0) ∨ ∃ b off cap, v = .slice (some ⟨b, off, none⟩) xs.length cap ∧ ∀ k x, xs[k]? = some x → w.cell? ⟨b, off + k, none⟩ = some x
theorem RowAt.same {w w' : World} {v : Value} {l : List Value} (h : RowAt w v l) (hs : ∀ k, v.ownBlock = some k → w'.heap[k]? = w.heap[k]?) : RowAt w' v l := by
  rcases h with h | ⟨b, off, cap, rfl, h3⟩
  · exact Or.inl h
  · exact Or.inr ⟨b, off, cap, rfl, fun k x hx => (World.cell?_of_block (a := ⟨b, off + k, none⟩) (hs b rfl)).trans (h3 k x hx)⟩
theorem RowAt.of_row {w : World} {B : Nat} {e : TypeId} {v : Value} {n : Nat} {xs : List Value} (h : w.ownsRow B e 1 v n xs) : RowAt w v xs := by
  have hn := h.1
  rcases h.2 with ⟨rfl, h0⟩ | ⟨g, cap, cur, rfl, _, hg, h1, h2, h3, h4⟩
  · rw [List.eq_nil_of_length_eq_zero (by omega : xs.length = 0)]
    exact Or.inl ⟨rfl, rfl⟩
  · obtain rfl : n = xs.length := by omega
    refine Or.inr ⟨g, 0, cap, rfl, fun k x hx => ?_⟩
    have := World.ownsRow.cellAt h k (by have := (List.getElem?_eq_some_iff.1 hx).1; omega)
    rw [Nat.zero_add, this, hx]
theorem RowAt.shape {w : World} {v : Value} {l : List Value} (h : RowAt w v l) : ∃ a c, v = .slice a l.length c ∧ ∀ k x, l[k]? = some x → ∃ b off, a = some ⟨b, off, none⟩ ∧ w.cell? ⟨b, off + k, none⟩ = some x ∧ v.ownBlock = some b := by
  rcases h with ⟨rfl, rfl⟩ | ⟨b, off, cap, rfl, h3⟩
  · exact ⟨none, 0, rfl, fun k x hx => by simp at hx⟩
  · exact ⟨_, cap, rfl, fun k x hx => ⟨b, off, rfl, h3 k x hx, rfl⟩⟩
abbrev TextsAt (w : World) (v : Value) (l : List (List UInt8)) : Prop := RowAt w v (l.map strV)

set_option maxHeartbeats 1000000 in
set_option maxRecDepth 100000 in
theorem SameTexts_any (w : World) (v u : Value) (l m : List (List UInt8)) (hv : TextsAt w v l) (hu : TextsAt w u m) (hl : l.length ≤ 9223372036854775807) (_hm : m.length ≤ 9223372036854775807) :
    Calls Tryz.prog 69 #[v, u] w fun e w' => e = .returned (.bool (decide (l = m))) ∧ ∃ q, w' = w.drewN q := by
  obtain ⟨a, c, rfl, ha⟩ := hv.shape
  obtain ⟨b, c2, rfl, hb⟩ := hu.shape
  simp only [List.length_map] at *
  have HA := Lib.hid ha
  have HB := Lib.hid hb
  clear hv hu ha hb
  by_cases hlen : l.length = m.length
  · rw [hlen]
    have HL := Lib.hid hlen
    rw [hlen] at hl
    clear hlen
    go_enter Tryz.func69, Tryz.ntmps69
    go_wp2
    go_loopw [5] (fun i wr => ∃ k q : Nat, i = .int .i64 k ∧ k ≤ m.length ∧ Hid (l.take k = m.take k) ∧ wr = w.drewN q) (fun i _ => m.length - (intOf i).toNat)
    case atStart => exact ⟨0, 0, rfl, Nat.zero_le _, rfl, rfl⟩
    case round =>
      obtain ⟨k, q, rfl, hk, hE, rfl⟩ := hrel
      by_cases hlt : k < m.length
      · obtain ⟨x, hx⟩ : ∃ x, l[k]? = some x := ⟨_, List.getElem?_eq_getElem (by have := HL.out; omega)⟩
        obtain ⟨y, hy⟩ : ∃ y, m[k]? = some y := ⟨_, List.getElem?_eq_getElem hlt⟩
        obtain ⟨b1, o1, rfl, hc1, _⟩ := HA.out k (strV x) (by rw [List.getElem?_map, hx]; rfl)
        obtain ⟨b2, o2, rfl, hc2, _⟩ := HB.out k (strV y) (by rw [List.getElem?_map, hy]; rfl)
        have ht1 := toList_str x
        have ht2 := toList_str y
        have ik0 : (0 : Int) ≤ (k : Int) := by omega
        have ik1 : (k : Int) < (m.length : Int) := by omega
        have HX := Lib.hid hx
        have HY := Lib.hid hy
        clear hx hy
        by_cases hxy : x = y
        · subst hxy
          have hE2 : Hid (l.take (k + 1) = m.take (k + 1)) := by
            show _ = _
            rw [List.take_add_one, List.take_add_one, HX.out, HY.out, hE.out]
          clear ht1 ht2
          go_wp2
          go_quiet (fail)
          go_wp2
          go_roundw
          case rel => exact ⟨k + 1, _, by go_num, by omega, hE2, rfl⟩
          case measure => simp [intOf]; omega
        · have hq : ((str x).toList == (str y).toList) = false := by rw [ht1, ht2]; simpa using hxy
          have hne : l ≠ m := fun e => hxy (by
            have h1 := HX.out
            rw [e, HY.out] at h1
            exact (Option.some.inj h1).symm)
          have HN := Lib.hid hne
          clear hxy ht1 ht2 hne
          go_wp2
          go_quiet (fail)
          go_wp2
          go_ret
          exact ⟨by rw [decide_eq_false HN.out]; rfl, q + nq, drewN_add w q nq⟩
      · have he : l = m := by
          have h1 := hE.out
          rw [List.take_of_length_le (by have := HL.out; omega), List.take_of_length_le (by omega)] at h1
          exact h1
        have HE := Lib.hid he
        clear he
        go_wp2
        go_ret
        exact ⟨by rw [decide_eq_true HE.out]; rfl, _, rfl⟩
  · have hne : l ≠ m := fun e => hlen (by rw [e])
    have HN := Lib.hid hne
    clear hne
    have hq : ((l.length : Int) == (m.length : Int)) = false := by simp; omega
    have hq2 : ((l.length : Int) != (m.length : Int)) = true := by simp; omega
    clear hlen
    go_enter Tryz.func69, Tryz.ntmps69
    go_wp2
    go_ret
    exact ⟨by rw [decide_eq_false HN.out]; rfl, 0, rfl⟩

/-! ### an operation of a script -/
structure Sp where
  do_ : Int
  who : Int
  name : List UInt8
  data : List UInt8
  n : Int
  keep : List Int
def Sp.cells (s : Sp) (kv : Value) : List Value := [.int .i64 s.do_, .int .i64 s.who, strV s.name, strV s.data, .int .i64 s.n, kv]
def odOf (s : Sp) : Od :=
  if s.do_ = 1 then .create s.name else if s.do_ = 2 then .write s.name s.data else if s.do_ = 3 then .sync s.name else if s.do_ = 4 then .rename s.name s.data else if s.do_ = 5 then .remove s.name else .flush
theorem HdTo.from {w w1 w2 : World} {A : List Nat} {g : Nat} {d' : Dk} {N : Nat} (hb : Below w.heap.size w w1) (h : HdTo g d' N A w1 w2) : HdTo g d' N A w w2 := by
  obtain ⟨A', h1, h2⟩ := h
  exact ⟨A', h1, (Stp.of_below (A := A) (B := A) hb (fun k hk => Or.inl hk)).trans h2⟩
theorem odOf_n {s : Sp} (h1 : ¬ s.do_ = 1) (h2 : ¬ s.do_ = 2) (h3 : ¬ s.do_ = 3) (h4 : ¬ s.do_ = 4) : odOf s = if s.do_ = 5 then .remove s.name else .flush := by unfold odOf; rw [if_neg h1, if_neg h2, if_neg h3, if_neg h4]
theorem cellsStep : Tryz.prog.cellsOf 36 = 6 := by kernel_rfl
set_option maxHeartbeats 4000000 in
set_option maxRecDepth 100000 in
theorem operation_any (w : World) (A : List Nat) (g : Nat) (d : Dk) (N : Nat) (s : Sp) (kv : Value) (hkv : ∃ a n c, kv = .slice a n c) (h : Hd w A g d N) (hN : N + 1 < 4294967296) (h1 : s.name.length ≤ 140737488355328) (h2 : s.data.length ≤ 140737488355328) :
    Calls Tryz.prog 57 #[.pointer (some ⟨g, 0, none⟩), .agg (s.cells kv).toArray] w (HdDo g d (odOf s) N A w) := by
  obtain ⟨ka, kn, kc, rfl⟩ := hkv
  obtain ⟨do_, who, name, data, n, keep⟩ := s
  have hS : Below w.heap.size w (w.alloc (.cells ([Value.int .i64 do_, .int .i64 who, strV name, strV data, .int .i64 n, .slice ka kn kc]).toArray 36)) := (Below.refl _ w).alloc (Nat.le_refl _) _
  have hb := Blk.new w ([Value.int .i64 do_, .int .i64 who, strV name, strV data, .int .i64 n, .slice ka kn kc]) 36
  have k0 := hb.cell 0
  have k2 := hb.cell 2
  have k3 := hb.cell 3
  have H := Lib.hid (h.below hS)
  have HS := Lib.hid hS
  unfold Sp.cells
  simp only [List.getElem?_cons_zero, List.getElem?_cons_succ] at k0 k2 k3
  simp only at h1 h2 ⊢
  clear hS hb h
  by_cases e1 : do_ = 1
  · have ho : odOf ⟨do_, who, name, data, n, keep⟩ = .create name := by unfold odOf; simp only; rw [if_pos e1]
    rw [ho]
    subst e1
    have hC := Lib.hid (Create_hd H.out hN name (by omega))
    clear ho
    go_enter Tryz.func57, Tryz.ntmps57
    go_wp2_with (fail)
    refine hC.out.mono ?_
    rintro e w1 hp
    have HP := Lib.hid (HdTo.from HS.out hp.2)
    have HE := Lib.hid hp.1
    obtain ⟨rfl, -⟩ := hp
    go_wp2
    go_ret
    exact ⟨rfl, HP.out⟩
  · have q1 : (do_ == 1) = false := by simpa using e1
    by_cases e2 : do_ = 2
    · have ho : odOf ⟨do_, who, name, data, n, keep⟩ = .write name data := by unfold odOf; simp only; rw [if_neg e1, if_pos e2]
      rw [ho]
      subst e2
      have hC := Lib.hid (Write_hd H.out hN name data (by omega) (by omega))
      clear ho
      clear e1 q1
      go_enter Tryz.func57, Tryz.ntmps57
      go_wp2_with (fail)
      refine hC.out.mono ?_
      rintro e w1 hp
      have HP := Lib.hid (HdTo.from HS.out hp.2)
      have HE := Lib.hid hp.1
      obtain ⟨rfl, -⟩ := hp
      go_wp2
      go_ret
      exact ⟨rfl, HP.out⟩
    · have q2 : (do_ == 2) = false := by simpa using e2
      by_cases e3 : do_ = 3
      · have ho : odOf ⟨do_, who, name, data, n, keep⟩ = .sync name := by unfold odOf; simp only; rw [if_neg e1, if_neg e2, if_pos e3]
        rw [ho]
        subst e3
        have hC := Lib.hid (Sync_hd H.out hN name (by omega))
        clear ho
        clear e1 q1 e2 q2
        go_enter Tryz.func57, Tryz.ntmps57
        go_wp2_with (fail)
        refine hC.out.mono ?_
        rintro e w1 hp
        have HP := Lib.hid (HdTo.from HS.out hp.2)
        have HE := Lib.hid hp.1
        obtain ⟨rfl, -⟩ := hp
        go_wp2
        go_ret
        exact ⟨rfl, HP.out⟩
      · have q3 : (do_ == 3) = false := by simpa using e3
        by_cases e4 : do_ = 4
        · have ho : odOf ⟨do_, who, name, data, n, keep⟩ = .rename name data := by unfold odOf; simp only; rw [if_neg e1, if_neg e2, if_neg e3, if_pos e4]
          rw [ho]
          subst e4
          have hC := Lib.hid (Rename_hd H.out hN name data (by omega) (by omega))
          clear ho
          clear e1 q1 e2 q2 e3 q3
          go_enter Tryz.func57, Tryz.ntmps57
          go_wp2_with (fail)
          refine hC.out.mono ?_
          rintro e w1 hp
          have HP := Lib.hid (HdTo.from HS.out hp.2)
          have HE := Lib.hid hp.1
          obtain ⟨rfl, -⟩ := hp
          go_wp2
          go_ret
          exact ⟨rfl, HP.out⟩
        · have q4 : (do_ == 4) = false := by simpa using e4
          by_cases e5 : do_ = 5
          · have ho : odOf ⟨do_, who, name, data, n, keep⟩ = .remove name := by unfold odOf; simp only; rw [if_neg e1, if_neg e2, if_neg e3, if_neg e4, if_pos e5]
            rw [ho]
            subst e5
            have hC := Lib.hid (Remove_hd H.out hN name (by omega))
            clear ho
            clear e1 q1 e2 q2 e3 q3 e4 q4
            go_enter Tryz.func57, Tryz.ntmps57
            go_wp2_with (fail)
            refine hC.out.mono ?_
            rintro e w1 hp
            have HP := Lib.hid (HdTo.from HS.out hp.2)
            have HE := Lib.hid hp.1
            obtain ⟨rfl, -⟩ := hp
            go_wp2
            go_ret
            exact ⟨rfl, HP.out⟩
          · have q5 : (do_ == 5) = false := by simpa using e5
            have ho : odOf ⟨do_, who, name, data, n, keep⟩ = .flush := by unfold odOf; simp only; rw [if_neg e1, if_neg e2, if_neg e3, if_neg e4, if_neg e5]
            rw [ho]
            have hC := Lib.hid (Flush_hd H.out hN)
            clear ho e1 e2 e3 e4 e5
            go_enter Tryz.func57, Tryz.ntmps57
            go_wp2_with (fail)
            refine hC.out.mono ?_
            rintro e w1 hp
            have HP := Lib.hid (HdTo.from HS.out hp.2)
            have HE := Lib.hid hp.1
            obtain ⟨rfl, -⟩ := hp
            go_wp2
            go_ret
            exact ⟨rfl, HP.out⟩
end Go.Proofs.YtfgpigblnkanpaaGreatDoor
