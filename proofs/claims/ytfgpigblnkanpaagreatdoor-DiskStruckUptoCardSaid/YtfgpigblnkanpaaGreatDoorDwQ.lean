/- The walks of a disk's Read, New, Revive, Crash, Arm. -/
import Derived.Test.YtfgpigblnkanpaaGreatDoorDwP
namespace Go.Proofs.YtfgpigblnkanpaaGreatDoor
set_option linter.unusedVariables false
open Go.RowKit Go.Maps Go.Shelf

set_option maxHeartbeats 1000000 in
set_option maxRecDepth 100000 in
theorem dkRead_any (w : World) (g : Nat) (L : Lay) (d : Dk) (N : Nat) (n : Nm) (hn : n.length ≤ 9223372036854775807) (h : DiskIn w g L d N) (hk : DkOk d) :
    Calls Tryz.prog 21 #[.pointer (some ⟨g, 0, none⟩), strV n] w fun e w' => e = .returned (.tuple #[strV (dread d n).1, errV (dread d n).2]) ∧ w = w' := by
  obtain ⟨c0, c1, c2, c3, c4, c5, c6⟩ := h.cells
  have hC := dkthere_any w g L d N n hn h hk
  have hl := h.now.look hk.now n hn
  by_cases hoff : d.off = true
  · rw [hoff] at c0
    have e0 : dread d n = ([], 20) := by unfold dread; rw [if_pos hoff]
    rw [e0]
    clear hoff e0 hC hl h hk
    go_enter Tryz.func21, Tryz.ntmps21
    go_wp2
    go_ret2
    exact ⟨rfl, rfl⟩
  · have hoff' : d.off = false := by simpa using hoff
    rw [hoff'] at c0
    cases hg : tget d.now n with
    | none =>
      have e0 : dread d n = ([], 18) := by unfold dread; rw [if_neg hoff, hg]
      rw [e0]
      rw [thereNo_none hg, errV_no (by omega)] at hC
      clear hoff hoff' e0 hl h hk hg
      go_enter Tryz.func21, Tryz.ntmps21
      go_wp2_with (go_at_call 63; refine hC.mono ?_; rintro e w' ⟨rfl, rfl⟩)
      go_ret2
      exact ⟨rfl, rfl⟩
    | some f =>
      have e0 : dread d n = ((fat d.files f).data, 0) := by unfold dread; rw [if_neg hoff, hg]
      rw [e0]
      rw [thereNo_some hg, errV_0] at hC
      obtain ⟨f0, f1⟩ := h.fcells (hk.nowIn _ (tget_mem hg))
      rw [hg] at hl
      simp only [fileV] at hl
      clear hoff hoff' e0 h hk hg
      go_enter Tryz.func21, Tryz.ntmps21
      go_wp2_with (go_at_call 63; refine hC.mono ?_; rintro e w' ⟨rfl, rfl⟩)
      go_ret2
      exact ⟨rfl, rfl⟩

def NewPost (room : Int) (w : World) (e : Ending) (w' : World) : Prop :=
  ∃ g L, e = .returned (.pointer (some ⟨g, 0, none⟩)) ∧ DiskIn w' g L (dnew room) 0 ∧ Below w.heap.size w w' ∧ ∀ k ∈ L.foot g, w.heap.size ≤ k
set_option maxHeartbeats 1000000 in
set_option maxRecDepth 100000 in
theorem dkNew_any (w : World) (room : Int) : Calls Tryz.prog 11 #[.int .i64 room] w (NewPost room w) := by
  have hmm := @run_makeMap Tryz.prog
  go_enter Tryz.func11, Tryz.ntmps11
  go_wp2
  go_ret
  have e1 : min (max room 0) 268435456 = (((dnew room).room : Nat) : Int) := by show _ = (((min (max room 0) 268435456).toNat : Nat) : Int); omega
  rw [e1]
  have s1 : (w.alloc (.map #[] 0)).heap.size = w.heap.size + 1 := by simp
  have s2 : ((w.alloc (.map #[] 0)).alloc (.map #[] 0)).heap.size = w.heap.size + 2 := by simp
  have hm1 : MapIs (w.alloc (.map #[] 0)) w.heap.size [] [] 0 := MapIs.fresh w []
  have hm2 : MapIs ((w.alloc (.map #[] 0)).alloc (.map #[] 0)) (w.heap.size + 1) [] [] 0 := by
    have := MapIs.fresh (w.alloc (.map #[] 0)) []
    rwa [s1] at this
  have hm1' := hm1.same (w' := (w.alloc (.map #[] 0)).alloc (.map #[] 0)) (Below.heap_alloc _ _ _ (by omega))
  have hb := Blk.new ((w.alloc (.map #[] 0)).alloc (.map #[] 0)) (dkCells ⟨w.heap.size, w.heap.size + 1, [], [], [], .slice none 0 0, .slice none 0 0⟩ (dnew room)) 101
  rw [s2] at hb
  have hB : Below w.heap.size w (((w.alloc (.map #[] 0)).alloc (.map #[] 0)).alloc (.cells (dkCells ⟨w.heap.size, w.heap.size + 1, [], [], [], .slice none 0 0, .slice none 0 0⟩ (dnew room)).toArray 101)) := (((Below.refl _ w).alloc (Nat.le_refl _) _).alloc (by omega) _).alloc (by omega) _
  refine ⟨w.heap.size + 2, ⟨w.heap.size, w.heap.size + 1, [], [], [], .slice none 0 0, .slice none 0 0⟩, rfl, ⟨hb, hm1'.same (Below.heap_alloc _ _ _ (by omega)), hm2.same (Below.heap_alloc _ _ _ (by omega)), rfl, fun i hi => (by cases hi), World.ownsRow_nil _ _ _ _, trivial, fun x hx => (by cases hx), World.ownsRow_nil _ _ _ _, ?_⟩, hB, ?_⟩
  · exact ⟨by show w.heap.size + 2 ≠ w.heap.size; omega, by show w.heap.size + 2 ≠ w.heap.size + 1; omega, by simp, by simp, fun k hk => (by cases hk), fun k hk => (by cases hk), by show w.heap.size ≠ w.heap.size + 1; omega, by simp, by simp, fun k hk => (by cases hk), fun k hk => (by cases hk), by simp, by simp, fun k hk => (by cases hk), fun k hk => (by cases hk), List.nodup_nil, fun k hk => (by cases hk), fun k hk => (by cases hk), fun k hk => (by cases hk), fun k hk => (by cases hk), fun k hk => (by cases hk)⟩
  · intro k hk
    rcases foot_cases hk with rfl | rfl | rfl | hk | hk | hk | hk
    · omega
    · exact Nat.le_refl _
    · exact Nat.le_succ _
    · cases hk
    · cases hk
    · cases hk
    · cases hk

theorem dkRevive_any (w : World) (g : Nat) (L : Lay) (d : Dk) (N : Nat) (h : DiskIn w g L d N) : Calls Tryz.prog 19 #[.pointer (some ⟨g, 0, none⟩)] w fun e w' => e = .returned (.tuple #[]) ∧ DiskIn w' g L (drevive d) N ∧ Stp (L.foot g) (L.foot g) w w' := by
  obtain ⟨c0, c1, c2, c3, c4, c5, c6⟩ := h.cells
  have f0 := h.blk.free 0
  have HD := Lib.hid h
  clear h
  go_enter Tryz.func19, Tryz.ntmps19
  go_wp2
  go_end0
  exact ⟨rfl, HD.out.setHead rfl rfl rfl rfl rfl (HD.out.blk.set 0 (.bool false)) (by simp [World.setCell]) (fun k _ hk => Below.heap_setCell _ _ _ _ hk), Stp.of_set _ _ _ foot_g (fun k hk => Or.inl hk)⟩

def dcrash (d : Dk) (keep : List Int) : Dk := if d.off = true then d else dfail d keep
def DonePost (g : Nat) (L : Lay) (d' : Dk) (N : Nat) (w : World) (e : Ending) (w' : World) : Prop :=
  e = .returned (.tuple #[]) ∧ ∃ L' : Lay, DiskIn w' g L' d' N ∧ Stp (L.foot g) (L'.foot g) w w'
set_option maxHeartbeats 1000000 in
set_option maxRecDepth 100000 in
theorem dkCrash_any (w : World) (g : Nat) (L : Lay) (d : Dk) (N : Nat) (kv : Value) (keep : List Int) (h : DiskIn w g L d N) (hk : DkOk d) (hb : DkB d N) (hN : N < 4294967296) (hi : IntsAt w kv keep) (hkv : ∀ j, usesOf kv keep = some j → j < w.heap.size ∧ j ∉ L.foot g) :
    Calls Tryz.prog 18 #[.pointer (some ⟨g, 0, none⟩), .agg #[kv]] w (DonePost g L (dcrash d keep) N w) := by
  have hS : Below w.heap.size w (w.alloc (.cells #[kv] 26)) := (Below.refl _ w).alloc (Nat.le_refl _) _
  have hC := dkfail_any _ g L d N kv keep (h.below hS) hk hb hN (hi.same fun k hk => hS.block k (hkv k hk).1) (fun j hj => ⟨Nat.lt_of_lt_of_le (hkv j hj).1 hS.size, fun e => (hkv j hj).2 (e ▸ foot_bs), fun e => (hkv j hj).2 (foot_F e)⟩)
  have hbx := Blk.new w [kv] 26
  have k0 := hbx.cell 0
  simp only [List.getElem?_cons_zero] at k0
  obtain ⟨c0, c1, c2, c3, c4, c5, c6⟩ := (h.below hS).cells
  have HS := Lib.hid hS
  have HD := Lib.hid h
  obtain ⟨ka, kn, kc, rfl⟩ := hi.shape
  by_cases hoff : d.off = true
  · have e0 : dcrash d keep = d := by unfold dcrash; rw [if_pos hoff]
    rw [hoff] at c0
    rw [e0]
    clear hoff e0 hC h hk hb hS hi hkv
    go_enter Tryz.func18, Tryz.ntmps18
    go_wp2
    go_end0
    exact ⟨rfl, L, HD.out.below HS.out, Stp.of_below HS.out (fun k hk => Or.inl hk)⟩
  · have hoff' : d.off = false := by simpa using hoff
    have e0 : dcrash d keep = dfail d keep := by unfold dcrash; rw [if_neg hoff]
    rw [hoff'] at c0
    rw [e0]
    have HC := Lib.hid hC
    clear hoff hoff' e0 h hk hb hS hi hkv hC
    go_enter Tryz.func18, Tryz.ntmps18
    go_wp2_with (go_at_call 68; refine HC.out.mono ?_; rintro e w1 ⟨rfl, L', h1, h2⟩; have H1 := Lib.hid h1; have H2 := Lib.hid h2; clear h1 h2)
    go_end0
    exact ⟨rfl, L', H1.out, (Stp.of_below HS.out (fun k hk => Or.inl hk)).trans H2.out⟩

theorem CloneInts_any (w : World) (v : Value) (l : List Int) (h : IntsAt w v l) (hl : l.length * 8 ≤ 140737488355328) : Calls Tryz.prog 81 #[v] w fun e w' => ∃ v', e = .returned v' ∧ w'.ownsRow w.heap.size 3 1 v' l.length (l.map (Value.int .i64)) ∧ Below w.heap.size w w' := by
  rcases h with ⟨rfl, a, cap, rfl⟩ | ⟨b, off, cap, rfl, h1, h2, h3⟩
  · cases a with
    | none => exact (Any.slices_Clone_int_nil layClone 0 cap w).mono fun e w' ⟨he, hw⟩ => ⟨_, he, World.ownsRow_nil _ _ _ _, hw ▸ Below.refl _ _⟩
    | some a => exact (Any.slices_Clone_int_zero layClone a cap w).mono fun e w' ⟨v', he, hr, _, hb⟩ => ⟨v', he, hr, hb⟩
  · refine (Any.slices_Clone_int layClone b off l.length cap l w (Nat.le_refl _) hl (fun j hj => h3 j _ ?_)).mono fun e w' ⟨v', he, hr, _, hb⟩ => ⟨v', he, ?_, hb⟩
    · rw [List.getElem?_eq_getElem hj, List.getD_eq_getElem?_getD, List.getElem?_eq_getElem hj]; rfl
    · rw [List.take_length] at hr
      exact hr
theorem row_base {w : World} {B : Nat} {e : TypeId} {size : Nat} {v : Value} {n : Nat} {xs : List Value} (h : w.ownsRow B e size v n xs) : w.ownsRow 0 e size v n xs := by
  refine ⟨h.1, ?_⟩
  rcases h.2 with h2 | ⟨g, cap, cur, hv, hb, rest⟩
  · exact Or.inl h2
  · exact Or.inr ⟨g, cap, cur, hv, Nat.zero_le _, rest⟩
def darm (d : Dk) (n : Int) (keep : List Int) : Dk := { d with armed := (max n 0).toNat, fate := keep }
theorem DiskIn.arm {w w2 : World} {g : Nat} {L : Lay} {d : Dk} {N : Nat} {n : Int} {keep : List Int} {v : Value} (h : DiskIn w g L d N) (hr : w2.ownsRow w.heap.size 3 1 v keep.length (keep.map (Value.int .i64))) (hb : Below w.heap.size w w2) :
    DiskIn ((w2.setCell ⟨g, 5, none⟩ (.int .i64 (max n 0))).setCell ⟨g, 6, none⟩ v) g { L with vf := v } (darm d n keep) N ∧ Stp (L.foot g) ({ L with vf := v : Lay }.foot g) w ((w2.setCell ⟨g, 5, none⟩ (.int .i64 (max n 0))).setCell ⟨g, 6, none⟩ v) := by
  have ap := h.apart
  have hlt := h.lt
  have hgl := h.blk.lt
  have hvb : ∀ k, v.ownBlock = some k → w.heap.size ≤ k := fun k hk => (hr.lt k hk).1
  have hoth : ∀ k, k ≠ g → ((w2.setCell ⟨g, 5, none⟩ (.int .i64 (max n 0))).setCell ⟨g, 6, none⟩ v).heap[k]? = w2.heap[k]? := fun k hk => set2_old hk
  have hold : ∀ k ∈ L.foot g, k ≠ g → ((w2.setCell ⟨g, 5, none⟩ (.int .i64 (max n 0))).setCell ⟨g, 6, none⟩ v).heap[k]? = w.heap[k]? := fun k hk hg => (hoth k hg).trans (hb.block k (hlt k hk))
  have hsz : w.heap.size ≤ ((w2.setCell ⟨g, 5, none⟩ (.int .i64 (max n 0))).setCell ⟨g, 6, none⟩ v).heap.size := by have := hb.size; simpa [World.setCell] using this
  have hne : ∀ k ∈ L.foot g, ∀ j, v.ownBlock = some j → k ≠ j := fun k hk j hj e => by have := hlt k hk; have := hvb j hj; omega
  refine ⟨⟨?_, h.now.same (hold _ foot_bn ap.gbn.symm), h.safe.same (hold _ foot_bs ap.gbs.symm), h.len, fun i hi => ?_, ownsRow_same h.row fun k hk => hold k (foot_vp hk) (fun e => ap.gvp k hk e.symm), h.pend.same fun k hk => hold k (foot_X hk) (fun e => ap.gX (e ▸ hk)), fun x hx => Nat.lt_of_lt_of_le (h.boxes x hx) hsz, ?_, ?_⟩, ?_⟩
  · have e1 : max n 0 = (((darm d n keep).armed : Nat) : Int) := by show _ = (((max n 0).toNat : Nat) : Int); omega
    rw [e1]
    exact ((h.blk.below hb hgl).set 5 _).set 6 v
  · have hm := getD_mem (F := L.F) (i := i) (by rw [h.len]; exact hi)
    exact (h.files i hi).same (hold _ (foot_F hm) (fun e => ap.gF (e ▸ hm)))
  · show World.ownsRow _ 0 _ 1 v keep.length (keep.map (Value.int .i64))
    refine ownsRow_same (w := w2) ?_ fun k hk => hoth k (fun e => hne g foot_g k hk e.symm)
    exact row_base hr
  · exact ⟨ap.gbn, ap.gbs, ap.gF, ap.gX, ap.gvp, fun k hk => hne g foot_g k hk, ap.nbs, ap.nF, ap.nX, ap.nvp, fun k hk => hne _ foot_bn k hk, ap.sF, ap.sX, ap.svp, fun k hk => hne _ foot_bs k hk, ap.FF, ap.FX, ap.Fvp, fun k hk e => hne k (foot_F e) k hk rfl, ap.Xvp, fun k hk e => hne k (foot_vp hk) k e rfl⟩
  · refine ⟨hb.os, hb.tape, hb.output, hsz, fun k hk hA => (hoth k (fun e => hA (e ▸ foot_g))).trans (hb.block k hk), fun k hk => ?_⟩
    rcases foot_cases hk with rfl | rfl | rfl | hk | hk | hk | hk
    · exact Or.inl foot_g
    · exact Or.inl foot_bn
    · exact Or.inl foot_bs
    · exact Or.inl (foot_F hk)
    · exact Or.inl (foot_X hk)
    · exact Or.inl (foot_vp hk)
    · exact Or.inr (hvb k hk)
set_option maxHeartbeats 1000000 in
set_option maxRecDepth 100000 in
theorem dkArm_any (w : World) (g : Nat) (L : Lay) (d : Dk) (N : Nat) (n : Int) (kv : Value) (keep : List Int) (h : DiskIn w g L d N) (hi : IntsAt w kv keep) (hl : keep.length * 8 ≤ 140737488355328) (hkv : ∀ j, usesOf kv keep = some j → j < w.heap.size) :
    Calls Tryz.prog 26 #[.pointer (some ⟨g, 0, none⟩), .int .i64 n, .agg #[kv]] w (DonePost g L (darm d n keep) N w) := by
  have hS : Below w.heap.size w (w.alloc (.cells #[kv] 26)) := (Below.refl _ w).alloc (Nat.le_refl _) _
  have hD1 := h.below hS
  have hgl := hD1.blk.lt
  have hC := (CloneInts_any _ kv keep (hi.same fun k hk => hS.block k (hkv k hk)) hl).mono (R' := fun e w2 => ∃ v', e = .returned v' ∧ Hid (w2.ownsRow (w.alloc (.cells #[kv] 26)).heap.size 3 1 v' keep.length (keep.map (Value.int .i64)) ∧ Below (w.alloc (.cells #[kv] 26)).heap.size (w.alloc (.cells #[kv] 26)) w2)) (fun e w2 ⟨v', he, h1, h2⟩ => ⟨v', he, h1, h2⟩)
  have hbx := Blk.new w [kv] 26
  have k0 := hbx.cell 0
  simp only [List.getElem?_cons_zero] at k0
  have HS := Lib.hid hS
  have HD := Lib.hid hD1
  have HC := Lib.hid hC
  obtain ⟨ka, kn, kc, rfl⟩ := hi.shape
  clear h hS hi hkv hD1 hC
  go_enter Tryz.func26, Tryz.ntmps26
  go_wp2_with (fail)
  refine HC.out.mono ?_
  rintro e w2 ⟨v', rfl, hh⟩
  obtain ⟨va, vc, hv, _⟩ := row_open hh.out.1
  have hb2 := HD.out.blk.below hh.out.2 hgl
  have j5 := hb2.cell 5
  have j6 := hb2.cell 6
  have z5 := hb2.free 5
  have z6 := hb2.free 6
  simp only [dkCells, List.getElem?_cons_zero, List.getElem?_cons_succ] at j5 j6
  have HV := Lib.hid hv
  clear hb2 hv
  have hfin := Lib.hid (DiskIn.arm (n := n) HD.out hh.out.1 hh.out.2)
  rw [HV.out] at hfin ⊢
  go_wp2
  go_end0
  exact ⟨rfl, _, hfin.out.1, (Stp.of_below HS.out (fun k hk => Or.inl hk)).trans hfin.out.2⟩
end Go.Proofs.YtfgpigblnkanpaaGreatDoor
