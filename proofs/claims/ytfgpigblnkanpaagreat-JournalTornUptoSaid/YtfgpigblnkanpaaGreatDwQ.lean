/- The walks of a disk's Read, New, Revive, Crash, Arm. -/
import Derived.Test.YtfgpigblnkanpaaGreatDwP
namespace Go.Proofs.YtfgpigblnkanpaaGreat
set_option linter.unusedVariables false
open Go.RowKit Go.Maps Go.Shelf

set_option maxHeartbeats 1000000 in
set_option maxRecDepth 100000 in
theorem dkRead_any (w : World) (g : Nat) (L : Lay) (d : Dk) (N : Nat) (n : Nm) (hn : n.length ≤ 9223372036854775807) (h : DiskIn w g L d N) (hk : DkOk d) :
    Calls Tryz.prog 13 #[.pointer (some ⟨g, 0, none⟩), strV n] w fun e w' => e = .returned (.tuple #[strV (dread d n).1, errV (dread d n).2]) ∧ w = w' := by
  obtain ⟨c0, c1, c2, c3, c4, c5, c6⟩ := h.cells
  have hC := dkthere_any w g L d N n hn h hk
  have hl := h.now.look hk.now n hn
  by_cases hoff : d.off = true
  · rw [hoff] at c0
    have e0 : dread d n = ([], 20) := by unfold dread; rw [if_pos hoff]
    rw [e0]
    clear hoff e0 hC hl h hk
    go_enter Tryz.func13, Tryz.ntmps13
    go_wp2
    go_ret2
    exact ⟨rfl, rfl⟩
  · have hoff' : d.off = false := by simpa using hoff
    rw [hoff'] at c0
    cases hg : tget d.now n with
    | none =>
      have e0 : dread d n = ([], 18) := by unfold dread; rw [if_neg hoff, hg]
      rw [e0]
      rw [thereNo_none hg, errV_no (by omega)] at hC
      clear hoff hoff' e0 hl h hk hg
      go_enter Tryz.func13, Tryz.ntmps13
      go_wp2_with (go_at_call 24; refine hC.mono ?_; rintro e w' ⟨rfl, rfl⟩)
      go_ret2
      exact ⟨rfl, rfl⟩
    | some f =>
      have e0 : dread d n = ((fat d.files f).data, 0) := by unfold dread; rw [if_neg hoff, hg]
      rw [e0]
      rw [thereNo_some hg, errV_0] at hC
      obtain ⟨f0, f1⟩ := h.fcells (hk.nowIn _ (tget_mem hg))
      rw [hg] at hl
      simp only [fileV] at hl
      clear hoff hoff' e0 h hk hg
      go_enter Tryz.func13, Tryz.ntmps13
      go_wp2_with (go_at_call 24; refine hC.mono ?_; rintro e w' ⟨rfl, rfl⟩)
      go_ret2
      exact ⟨rfl, rfl⟩

def NewPost (room : Int) (w : World) (e : Ending) (w' : World) : Prop :=
  ∃ g L, e = .returned (.pointer (some ⟨g, 0, none⟩)) ∧ DiskIn w' g L (dnew room) 0 ∧ Below w.heap.size w w' ∧ ∀ k ∈ L.foot g, w.heap.size ≤ k
set_option maxHeartbeats 1000000 in
set_option maxRecDepth 100000 in
theorem dkNew_any (w : World) (room : Int) : Calls Tryz.prog 6 #[.int .i64 room] w (NewPost room w) := by
  have hmm := @run_makeMap Tryz.prog
  go_enter Tryz.func6, Tryz.ntmps6
  go_wp2
  go_ret
  have e1 : min (max room 0) 268435456 = (((dnew room).room : Nat) : Int) := by show _ = (((min (max room 0) 268435456).toNat : Nat) : Int); omega
  rw [e1]
  have s1 : (w.alloc (.map #[] 0)).heap.size = w.heap.size + 1 := by simp
  have s2 : ((w.alloc (.map #[] 0)).alloc (.map #[] 0)).heap.size = w.heap.size + 2 := by simp
  have hm1 : MapIs (w.alloc (.map #[] 0)) w.heap.size [] [] 0 := MapIs.fresh w []
  have hm2 : MapIs ((w.alloc (.map #[] 0)).alloc (.map #[] 0)) (w.heap.size + 1) [] [] 0 := by
    have := MapIs.fresh (w.alloc (.map #[] 0)) []
    rwa [s1] at this
  have hm1' := hm1.same (w' := (w.alloc (.map #[] 0)).alloc (.map #[] 0)) (Below.heap_alloc _ _ _ (by omega))
  have hb := Blk.new ((w.alloc (.map #[] 0)).alloc (.map #[] 0)) (dkCells ⟨w.heap.size, w.heap.size + 1, [], [], [], .slice none 0 0, .slice none 0 0⟩ (dnew room)) 47
  rw [s2] at hb
  have hB : Below w.heap.size w (((w.alloc (.map #[] 0)).alloc (.map #[] 0)).alloc (.cells (dkCells ⟨w.heap.size, w.heap.size + 1, [], [], [], .slice none 0 0, .slice none 0 0⟩ (dnew room)).toArray 47)) := (((Below.refl _ w).alloc (Nat.le_refl _) _).alloc (by omega) _).alloc (by omega) _
  refine ⟨w.heap.size + 2, ⟨w.heap.size, w.heap.size + 1, [], [], [], .slice none 0 0, .slice none 0 0⟩, rfl, ⟨hb, hm1'.same (Below.heap_alloc _ _ _ (by omega)), hm2.same (Below.heap_alloc _ _ _ (by omega)), rfl, fun i hi => (by cases hi), World.ownsRow_nil _ _ _ _, trivial, fun x hx => (by cases hx), World.ownsRow_nil _ _ _ _, ?_⟩, hB, ?_⟩
  · exact ⟨by show w.heap.size + 2 ≠ w.heap.size; omega, by show w.heap.size + 2 ≠ w.heap.size + 1; omega, by simp, by simp, fun k hk => (by cases hk), fun k hk => (by cases hk), by show w.heap.size ≠ w.heap.size + 1; omega, by simp, by simp, fun k hk => (by cases hk), fun k hk => (by cases hk), by simp, by simp, fun k hk => (by cases hk), fun k hk => (by cases hk), List.nodup_nil, fun k hk => (by cases hk), fun k hk => (by cases hk), fun k hk => (by cases hk), fun k hk => (by cases hk), fun k hk => (by cases hk)⟩
  · intro k hk
    rcases foot_cases hk with rfl | rfl | rfl | hk | hk | hk | hk
    · omega
    · exact Nat.le_refl _
    · exact Nat.le_succ _
    · cases hk
    · cases hk
    · cases hk
    · cases hk


def dcrash (d : Dk) (keep : List Int) : Dk := if d.off = true then d else dfail d keep
def DonePost (g : Nat) (L : Lay) (d' : Dk) (N : Nat) (w : World) (e : Ending) (w' : World) : Prop :=
  e = .returned (.tuple #[]) ∧ ∃ L' : Lay, DiskIn w' g L' d' N ∧ Stp (L.foot g) (L'.foot g) w w'
theorem row_base {w : World} {B : Nat} {e : TypeId} {size : Nat} {v : Value} {n : Nat} {xs : List Value} (h : w.ownsRow B e size v n xs) : w.ownsRow 0 e size v n xs := by
  refine ⟨h.1, ?_⟩
  rcases h.2 with h2 | ⟨g, cap, cur, hv, hb, rest⟩
  · exact Or.inl h2
  · exact Or.inr ⟨g, cap, cur, hv, Nat.zero_le _, rest⟩
def darm (d : Dk) (n : Int) (keep : List Int) : Dk := { d with armed := (max n 0).toNat, fate := keep }
theorem DiskIn.arm {w w2 : World} {g : Nat} {L : Lay} {d : Dk} {N : Nat} {n : Int} {keep : List Int} {v : Value} (h : DiskIn w g L d N) (hr : w2.ownsRow w.heap.size 3 1 v keep.length (keep.map (Value.int .i64))) (hb : Below w.heap.size w w2) :
    DiskIn ((w2.setCell ⟨g, 5, none⟩ (.int .i64 (max n 0))).setCell ⟨g, 6, none⟩ v) g { L with vf := v } (darm d n keep) N ∧ Stp (L.foot g) ({ L with vf := v : Lay }.foot g) w ((w2.setCell ⟨g, 5, none⟩ (.int .i64 (max n 0))).setCell ⟨g, 6, none⟩ v) := by
  have ap := h.apart
  have hlt := h.lt
  have hgl := h.blk.lt
  have hvb : ∀ k, v.ownBlock = some k → w.heap.size ≤ k := fun k hk => (hr.lt k hk).1
  have hoth : ∀ k, k ≠ g → ((w2.setCell ⟨g, 5, none⟩ (.int .i64 (max n 0))).setCell ⟨g, 6, none⟩ v).heap[k]? = w2.heap[k]? := fun k hk => set2_old hk
  have hold : ∀ k ∈ L.foot g, k ≠ g → ((w2.setCell ⟨g, 5, none⟩ (.int .i64 (max n 0))).setCell ⟨g, 6, none⟩ v).heap[k]? = w.heap[k]? := fun k hk hg => (hoth k hg).trans (hb.block k (hlt k hk))
  have hsz : w.heap.size ≤ ((w2.setCell ⟨g, 5, none⟩ (.int .i64 (max n 0))).setCell ⟨g, 6, none⟩ v).heap.size := by have := hb.size; simpa [World.setCell] using this
  have hne : ∀ k ∈ L.foot g, ∀ j, v.ownBlock = some j → k ≠ j := fun k hk j hj e => by have := hlt k hk; have := hvb j hj; omega
  refine ⟨⟨?_, h.now.same (hold _ foot_bn ap.gbn.symm), h.safe.same (hold _ foot_bs ap.gbs.symm), h.len, fun i hi => ?_, ownsRow_same h.row fun k hk => hold k (foot_vp hk) (fun e => ap.gvp k hk e.symm), h.pend.same fun k hk => hold k (foot_X hk) (fun e => ap.gX (e ▸ hk)), fun x hx => Nat.lt_of_lt_of_le (h.boxes x hx) hsz, ?_, ?_⟩, ?_⟩
  · have e1 : max n 0 = (((darm d n keep).armed : Nat) : Int) := by show _ = (((max n 0).toNat : Nat) : Int); omega
    rw [e1]
    exact ((h.blk.below hb hgl).set 5 _).set 6 v
  · have hm := getD_mem (F := L.F) (i := i) (by rw [h.len]; exact hi)
    exact (h.files i hi).same (hold _ (foot_F hm) (fun e => ap.gF (e ▸ hm)))
  · show World.ownsRow _ 0 _ 1 v keep.length (keep.map (Value.int .i64))
    refine ownsRow_same (w := w2) ?_ fun k hk => hoth k (fun e => hne g foot_g k hk e.symm)
    exact row_base hr
  · exact ⟨ap.gbn, ap.gbs, ap.gF, ap.gX, ap.gvp, fun k hk => hne g foot_g k hk, ap.nbs, ap.nF, ap.nX, ap.nvp, fun k hk => hne _ foot_bn k hk, ap.sF, ap.sX, ap.svp, fun k hk => hne _ foot_bs k hk, ap.FF, ap.FX, ap.Fvp, fun k hk e => hne k (foot_F e) k hk rfl, ap.Xvp, fun k hk e => hne k (foot_vp hk) k e rfl⟩
  · refine ⟨hb.os, hb.tape, hb.output, hsz, fun k hk hA => (hoth k (fun e => hA (e ▸ foot_g))).trans (hb.block k hk), fun k hk => ?_⟩
    rcases foot_cases hk with rfl | rfl | rfl | hk | hk | hk | hk
    · exact Or.inl foot_g
    · exact Or.inl foot_bn
    · exact Or.inl foot_bs
    · exact Or.inl (foot_F hk)
    · exact Or.inl (foot_X hk)
    · exact Or.inl (foot_vp hk)
    · exact Or.inr (hvb k hk)
end Go.Proofs.YtfgpigblnkanpaaGreat
