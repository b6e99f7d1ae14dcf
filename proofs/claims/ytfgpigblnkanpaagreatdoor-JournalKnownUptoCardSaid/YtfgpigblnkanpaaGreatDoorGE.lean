/- The walks of a disk's operations: Create, Write, Sync, Rename, Remove, Flush. The walks of a disk's Read, New, Revive, Crash, Arm. The walks of HasPrefix and of a disk's List. -/
import Derived.Test.YtfgpigblnkanpaaGreatDoorHE
namespace Go.Proofs.YtfgpigblnkanpaaGreatDoor
set_option linter.unusedVariables false
open Go.RowKit Go.Maps Go.Shelf

def DoPost (g : Nat) (L : Lay) (d : Dk) (o : Od) (N : Nat) (w : World) (e : Ending) (w' : World) : Prop :=
  e = .returned (errV (ddo d o).2) ∧ ∃ L' : Lay, DiskIn w' g L' (ddo d o).1 (N + 1) ∧ Stp (L.foot g) (L'.foot g) w w'
/-- Behind the boxes of an operation's own. -/
theorem DoPost.of {g : Nat} {L : Lay} {d : Dk} {o : Od} {N : Nat} {w w1 w2 : World} {Y : List Nat} {e : Ending} (hb : Below w.heap.size w w1) (hY : ∀ y ∈ Y, w.heap.size ≤ y) (h : OpPost g L (ddo d o).1 (ddo d o).2 N Y w1 e w2) : DoPost g L d o N w e w2 := by
  obtain ⟨he, L', hL, hS⟩ := h
  refine ⟨he, L', hL, hS.os.trans hb.os, hS.tape.trans hb.tape, hS.output.trans hb.output, Nat.le_trans hb.size hS.size, fun k hk hA => (hS.block k (Nat.lt_of_lt_of_le hk hb.size) (fun hm => ?_)).trans (hb.block k hk), fun k hk => ?_⟩
  · rcases List.mem_append.1 hm with hm | hm
    · exact hA hm
    · have := hY k hm; omega
  · rcases hS.inn k hk with hm | hm
    · rcases List.mem_append.1 hm with hm | hm
      · exact Or.inl hm
      · exact Or.inr (hY k hm)
    · exact Or.inr (Nat.le_trans hb.size hm)
theorem three_new (w : World) (u v x : Value) (s t r : TypeId) : Below w.heap.size w (((w.alloc (.cells #[u] s)).alloc (.cells #[v] t)).alloc (.cells #[x] r)) ∧ Blk (((w.alloc (.cells #[u] s)).alloc (.cells #[v] t)).alloc (.cells #[x] r)) w.heap.size [u] s ∧ Blk (((w.alloc (.cells #[u] s)).alloc (.cells #[v] t)).alloc (.cells #[x] r)) (w.heap.size + 1) [v] t ∧ Blk (((w.alloc (.cells #[u] s)).alloc (.cells #[v] t)).alloc (.cells #[x] r)) (w.heap.size + 2) [x] r ∧ (((w.alloc (.cells #[u] s)).alloc (.cells #[v] t)).alloc (.cells #[x] r)).heap.size = w.heap.size + 3 := by
  obtain ⟨h1, h2, h3, h4⟩ := two_new w u v s t
  have := Blk.new ((w.alloc (.cells #[u] s)).alloc (.cells #[v] t)) [x] r
  rw [h4] at this
  exact ⟨h1.alloc (by omega) _, h2.alloc _, h3.alloc _, this, by rw [World.size_alloc, h4]⟩
theorem Blk.stays {w w' : World} {b : Nat} {xs : List Value} {t : TypeId} (h : Blk w b xs t) (g : Nat) (L : Lay) (hs : ∀ k, k < w.heap.size → k ∉ L.foot g → w'.heap[k]? = w.heap[k]?) (hn : b ∉ L.foot g) : Blk w' b xs t := h.same (hs b h.lt hn)
theorem refused_some {d : Dk} {n : Nm} (h : thereNo d.now n = 0) : ∃ f, tget d.now n = some f := by
  unfold thereNo at h
  cases hg : tget d.now n with
  | some f => exact ⟨f, rfl⟩
  | none => rw [hg] at h; simp at h
theorem dless_now (d : Dk) : (dless d).now = d.now := rfl

set_option maxHeartbeats 1000000 in
set_option maxRecDepth 100000 in
theorem dkRemove_any (w : World) (g : Nat) (L : Lay) (d : Dk) (N : Nat) (n : Nm) (h : DiskIn w g L d N) (hk : DkOk d) (hb : DkB d N) (hN : N + 1 < 4294967296) (hn : n.length ≤ 9223372036854775807) :
    Calls Tryz.prog 34 #[.pointer (some ⟨g, 0, none⟩), strV n] w (DoPost g L d (.remove n) N w) := by
  obtain ⟨hS, hx, hy, hsz⟩ := two_new w (.pointer (some ⟨g, 0, none⟩)) (strV n) 29 9
  have hlt := h.lt
  have hmf : ∀ (fn : Fn) (first cap : Array Value) (w : World), (Instr.makeFunc fn first cap).run Tryz.prog w = .ok (.func fn first cap) w := fun _ _ _ _ => rfl
  have hC := dkoperate_any _ g L d N (.remove n) false 94 95 #[.pointer (some ⟨w.heap.size, 0, none⟩), .pointer (some ⟨w.heap.size + 1, 0, none⟩)] #[.pointer (some ⟨w.heap.size, 0, none⟩), .pointer (some ⟨w.heap.size + 1, 0, none⟩)] [w.heap.size + 1] (h.below hS) hk hb hN hn (by simp) (enters_of Tryz.func94 (by kernel_rfl) rfl) (enters_of Tryz.func95 (by kernel_rfl) rfl)
    (fun w1 hb1 => dkRemoveR_any w1 g L d N _ _ n hn ((h.below hS).below hb1) hk (hx.below hb1 hx.lt) (hy.below hb1 hy.lt))
    (fun hh => by cases hh) (fun _ => rfl)
    (fun _ _ w1 hD hz hs => dkRemoveA_any w1 g L (dless d) N _ _ n hn hD (hk.armed _) (hb.armed' _ (by have := hb.armed; omega)) (by omega) (hx.stays g L hs (fun hm => by have := hlt _ hm; omega)) (hy.stays g L hs (fun hm => by have := hlt _ hm; omega)) (fun hm => by have := hlt _ hm; omega))
  have HS := Lib.hid hS
  have HC := Lib.hid hC
  have hx0 := hx.cell 0
  clear h hk hb hS hx hy hC
  go_enter Tryz.func34, Tryz.ntmps34
  go_wp2_with (fail)
  refine HC.out.mono ?_
  rintro e w1 hp
  have HP := Lib.hid (DoPost.of HS.out (by simp) hp)
  obtain ⟨rfl, -⟩ := hp
  go_wp2
  go_ret
  exact HP.out
set_option maxHeartbeats 1000000 in
set_option maxRecDepth 100000 in
theorem dkCreate_any (w : World) (g : Nat) (L : Lay) (d : Dk) (N : Nat) (n : Nm) (h : DiskIn w g L d N) (hk : DkOk d) (hb : DkB d N) (hN : N + 1 < 4294967296) (hn : n.length ≤ 9223372036854775807) :
    Calls Tryz.prog 30 #[.pointer (some ⟨g, 0, none⟩), strV n] w (DoPost g L d (.create n) N w) := by
  obtain ⟨hS, hx, hy, hsz⟩ := two_new w (.pointer (some ⟨g, 0, none⟩)) (strV n) 29 9
  have hlt := h.lt
  have hmf : ∀ (fn : Fn) (first cap : Array Value) (w : World), (Instr.makeFunc fn first cap).run Tryz.prog w = .ok (.func fn first cap) w := fun _ _ _ _ => rfl
  have hC := dkoperate_any _ g L d N (.create n) false 84 86 #[.pointer (some ⟨w.heap.size + 1, 0, none⟩), .pointer (some ⟨w.heap.size, 0, none⟩)] #[.pointer (some ⟨w.heap.size, 0, none⟩), .pointer (some ⟨w.heap.size + 1, 0, none⟩)] [w.heap.size + 1] (h.below hS) hk hb hN hn (by simp) (enters_of Tryz.func84 (by kernel_rfl) rfl) (enters_of Tryz.func86 (by kernel_rfl) rfl)
    (fun w1 hb1 => dkCreateR_any w1 g L d N _ _ n hn ((h.below hS).below hb1) hk (hx.below hb1 hx.lt) (hy.below hb1 hy.lt))
    (fun hh => by cases hh) (fun _ => rfl)
    (fun _ _ w1 hD hz hs => dkCreateA_any w1 g L (dless d) N _ _ n hn hD (hk.armed _) (hb.armed' _ (by have := hb.armed; omega)) (by omega) (hx.stays g L hs (fun hm => by have := hlt _ hm; omega)) (hy.stays g L hs (fun hm => by have := hlt _ hm; omega)) (fun hm => by have := hlt _ hm; omega))
  have HS := Lib.hid hS
  have HC := Lib.hid hC
  have hx0 := hx.cell 0
  clear h hk hb hS hx hy hC
  go_enter Tryz.func30, Tryz.ntmps30
  go_wp2_with (fail)
  refine HC.out.mono ?_
  rintro e w1 hp
  have HP := Lib.hid (DoPost.of HS.out (by simp) hp)
  obtain ⟨rfl, -⟩ := hp
  go_wp2
  go_ret
  exact HP.out
set_option maxHeartbeats 1000000 in
set_option maxRecDepth 100000 in
theorem dkSync_any (w : World) (g : Nat) (L : Lay) (d : Dk) (N : Nat) (n : Nm) (h : DiskIn w g L d N) (hk : DkOk d) (hb : DkB d N) (hN : N + 1 < 4294967296) (hn : n.length ≤ 9223372036854775807) :
    Calls Tryz.prog 15 #[.pointer (some ⟨g, 0, none⟩), strV n] w (DoPost g L d (.sync n) N w) := by
  obtain ⟨hS, hx, hy, hsz⟩ := two_new w (.pointer (some ⟨g, 0, none⟩)) (strV n) 29 9
  have hlt := h.lt
  have hmf : ∀ (fn : Fn) (first cap : Array Value) (w : World), (Instr.makeFunc fn first cap).run Tryz.prog w = .ok (.func fn first cap) w := fun _ _ _ _ => rfl
  have hC := dkoperate_any _ g L d N (.sync n) true 62 64 #[.pointer (some ⟨w.heap.size, 0, none⟩), .pointer (some ⟨w.heap.size + 1, 0, none⟩)] #[.pointer (some ⟨w.heap.size, 0, none⟩), .pointer (some ⟨w.heap.size + 1, 0, none⟩)] [] (h.below hS) hk hb hN hn (by simp) (enters_of Tryz.func62 (by kernel_rfl) rfl) (enters_of Tryz.func64 (by kernel_rfl) rfl)
    (fun w1 hb1 => dkSyncR_any w1 g L d N _ _ n hn ((h.below hS).below hb1) hk (hx.below hb1 hx.lt) (hy.below hb1 hy.lt))
    (fun _ => rfl) (fun hh => by cases hh)
    (fun hr _ w1 hD hz hs => (by
      obtain ⟨f, hf⟩ := refused_some (by rw [refused_sync] at hr; exact hr)
      exact dkSyncA_any w1 g L (dless d) N _ _ f n hn hf hD (hk.armed _) (hx.stays g L hs (fun hm => by have := hlt _ hm; omega)) (hy.stays g L hs (fun hm => by have := hlt _ hm; omega))))
  have HS := Lib.hid hS
  have HC := Lib.hid hC
  have hx0 := hx.cell 0
  clear h hk hb hS hx hy hC
  go_enter Tryz.func15, Tryz.ntmps15
  go_wp2_with (fail)
  refine HC.out.mono ?_
  rintro e w1 hp
  have HP := Lib.hid (DoPost.of HS.out (by simp) hp)
  obtain ⟨rfl, -⟩ := hp
  go_wp2
  go_ret
  exact HP.out
set_option maxHeartbeats 1000000 in
set_option maxRecDepth 100000 in
theorem dkRename_any (w : World) (g : Nat) (L : Lay) (d : Dk) (N : Nat) (o n : Nm) (h : DiskIn w g L d N) (hk : DkOk d) (hb : DkB d N) (hN : N + 1 < 4294967296) (ho : o.length ≤ 9223372036854775807) (hn : n.length ≤ 9223372036854775807) :
    Calls Tryz.prog 33 #[.pointer (some ⟨g, 0, none⟩), strV o, strV n] w (DoPost g L d (.rename o n) N w) := by
  obtain ⟨hS, hx, hy, hz, hsz⟩ := three_new w (.pointer (some ⟨g, 0, none⟩)) (strV o) (strV n) 29 9 9
  have hlt := h.lt
  have hmf : ∀ (fn : Fn) (first cap : Array Value) (w : World), (Instr.makeFunc fn first cap).run Tryz.prog w = .ok (.func fn first cap) w := fun _ _ _ _ => rfl
  have hC := dkoperate_any _ g L d N (.rename o n) false 91 92 #[.pointer (some ⟨w.heap.size, 0, none⟩), .pointer (some ⟨w.heap.size + 1, 0, none⟩), .pointer (some ⟨w.heap.size + 2, 0, none⟩)] #[.pointer (some ⟨w.heap.size, 0, none⟩), .pointer (some ⟨w.heap.size + 1, 0, none⟩), .pointer (some ⟨w.heap.size + 2, 0, none⟩)] [w.heap.size + 1, w.heap.size + 2] (h.below hS) hk hb hN ⟨ho, hn⟩ (by simp) (enters_of Tryz.func91 (by kernel_rfl) rfl) (enters_of Tryz.func92 (by kernel_rfl) rfl)
    (fun w1 hb1 => dkRenameR_any w1 g L d N _ _ _ o n ho hn ((h.below hS).below hb1) hk (hx.below hb1 hx.lt) (hy.below hb1 hy.lt) (hz.below hb1 hz.lt))
    (fun hh => by cases hh) (fun _ => rfl)
    (fun _ _ w1 hD hzz hs => dkRenameA_any w1 g L (dless d) N _ _ _ o n ho hn hD (hk.armed _) (hb.armed' _ (by have := hb.armed; omega)) (by omega) (hx.stays g L hs (fun hm => by have := hlt _ hm; omega)) (hy.stays g L hs (fun hm => by have := hlt _ hm; omega)) (fun hm => by have := hlt _ hm; omega) (hz.stays g L hs (fun hm => by have := hlt _ hm; omega)) (fun hm => by have := hlt _ hm; omega))
  have HS := Lib.hid hS
  have HC := Lib.hid hC
  have hx0 := hx.cell 0
  clear h hk hb hS hx hy hz hC
  go_enter Tryz.func33, Tryz.ntmps33
  go_wp2_with (fail)
  refine HC.out.mono ?_
  rintro e w1 hp
  have HP := Lib.hid (DoPost.of HS.out (by simp) hp)
  obtain ⟨rfl, -⟩ := hp
  go_wp2
  go_ret
  exact HP.out
set_option maxHeartbeats 1000000 in
set_option maxRecDepth 100000 in
theorem dkWrite_any (w : World) (g : Nat) (L : Lay) (d : Dk) (N : Nat) (n : Nm) (s : List UInt8) (h : DiskIn w g L d N) (hk : DkOk d) (hb : DkB d N) (hN : N + 1 < 4294967296) (hn : n.length ≤ 9223372036854775807) (hsl : s.length ≤ 140737488355328) :
    Calls Tryz.prog 31 #[.pointer (some ⟨g, 0, none⟩), strV n, strV s] w (DoPost g L d (.write n s) N w) := by
  obtain ⟨hS, hx, hy, hz, hsz⟩ := three_new w (.pointer (some ⟨g, 0, none⟩)) (strV n) (strV s) 29 9 9
  have hlt := h.lt
  have hmf : ∀ (fn : Fn) (first cap : Array Value) (w : World), (Instr.makeFunc fn first cap).run Tryz.prog w = .ok (.func fn first cap) w := fun _ _ _ _ => rfl
  have hC := dkoperate_any _ g L d N (.write n s) false 89 90 #[.pointer (some ⟨w.heap.size, 0, none⟩), .pointer (some ⟨w.heap.size + 1, 0, none⟩), .pointer (some ⟨w.heap.size + 2, 0, none⟩)] #[.pointer (some ⟨w.heap.size, 0, none⟩), .pointer (some ⟨w.heap.size + 1, 0, none⟩), .pointer (some ⟨w.heap.size + 2, 0, none⟩)] [] (h.below hS) hk hb hN ⟨hn, by omega⟩ (by simp) (enters_of Tryz.func89 (by kernel_rfl) rfl) (enters_of Tryz.func90 (by kernel_rfl) rfl)
    (fun w1 hb1 => dkWriteR_any w1 g L d N _ _ _ n s hn hsl ((h.below hS).below hb1) hk hb (by omega) (hx.below hb1 hx.lt) (hy.below hb1 hy.lt) (hz.below hb1 hz.lt))
    (fun hh => by cases hh) (fun _ => rfl)
    (fun hr _ w1 hD hzz hs => (by
      rw [refused_write] at hr
      have ht : thereNo d.now n = 0 := by
        by_cases h0 : thereNo d.now n = 0
        · exact h0
        · rw [if_neg h0] at hr; exact absurd hr h0
      obtain ⟨f, hf⟩ := refused_some ht
      exact dkWriteA_any w1 g L (dless d) N _ _ _ f n s hn hf (by have := fat_in_all d N hb f; show (fat d.files f).data.length + s.length ≤ _; omega) hD (hk.armed _) (hx.stays g L hs (fun hm => by have := hlt _ hm; omega)) (hy.stays g L hs (fun hm => by have := hlt _ hm; omega)) (hz.stays g L hs (fun hm => by have := hlt _ hm; omega))))
  have HS := Lib.hid hS
  have HC := Lib.hid hC
  have hx0 := hx.cell 0
  clear h hk hb hS hx hy hz hC
  go_enter Tryz.func31, Tryz.ntmps31
  go_wp2_with (fail)
  refine HC.out.mono ?_
  rintro e w1 hp
  have HP := Lib.hid (DoPost.of HS.out (by simp) hp)
  obtain ⟨rfl, -⟩ := hp
  go_wp2
  go_ret
  exact HP.out
set_option maxHeartbeats 1000000 in
set_option maxRecDepth 100000 in
theorem dkFlush_any (w : World) (g : Nat) (L : Lay) (d : Dk) (N : Nat) (h : DiskIn w g L d N) (hk : DkOk d) (hb : DkB d N) (hN : N + 1 < 4294967296) :
    Calls Tryz.prog 16 #[.pointer (some ⟨g, 0, none⟩)] w (DoPost g L d .flush N w) := by
  have hS : Below w.heap.size w (w.alloc (.cells #[.pointer (some ⟨g, 0, none⟩)] 29)) := (Below.refl _ w).alloc (Nat.le_refl _) _
  have hx := Blk.new w [.pointer (some ⟨g, 0, none⟩)] 29
  have hlt := h.lt
  have hmf : ∀ (fn : Fn) (first cap : Array Value) (w : World), (Instr.makeFunc fn first cap).run Tryz.prog w = .ok (.func fn first cap) w := fun _ _ _ _ => rfl
  have hC := dkoperate_any _ g L d N .flush true 65 66 #[] #[.pointer (some ⟨w.heap.size, 0, none⟩)] [] (h.below hS) hk hb hN trivial (by simp) (enters_of Tryz.func65 (by kernel_rfl) rfl) (enters_of Tryz.func66 (by kernel_rfl) rfl)
    (fun w1 _ => dkFlushR_any w1 d)
    (fun _ => rfl) (fun hh => by cases hh)
    (fun _ _ w1 hD hzz hs => dkFlushA_any w1 g L (dless d) N _ hD (hx.stays g L hs (fun hm => by have := hlt _ hm; omega)))
  have HS := Lib.hid hS
  have HC := Lib.hid hC
  have hx0 := hx.cell 0
  clear h hk hb hS hx  hC
  go_enter Tryz.func16, Tryz.ntmps16
  go_wp2_with (fail)
  refine HC.out.mono ?_
  rintro e w1 hp
  have HP := Lib.hid (DoPost.of HS.out (by simp) hp)
  obtain ⟨rfl, -⟩ := hp
  go_wp2
  go_ret
  exact HP.out
end Go.Proofs.YtfgpigblnkanpaaGreatDoor

namespace Go.Proofs.YtfgpigblnkanpaaGreatDoor
set_option linter.unusedVariables false
open Go.RowKit Go.Maps Go.Shelf

set_option maxHeartbeats 1000000 in
set_option maxRecDepth 100000 in
theorem dkRead_any (w : World) (g : Nat) (L : Lay) (d : Dk) (N : Nat) (n : Nm) (hn : n.length ≤ 9223372036854775807) (h : DiskIn w g L d N) (hk : DkOk d) :
    Calls Tryz.prog 21 #[.pointer (some ⟨g, 0, none⟩), strV n] w fun e w' => e = .returned (.tuple #[strV (dread d n).1, errV (dread d n).2]) ∧ w = w' := by
  obtain ⟨c0, c1, c2, c3, c4, c5, c6⟩ := h.cells
  have hC := dkthere_any w g L d N n hn h hk
  have hl := h.now.look hk.now n hn
  by_cases hoff : d.off = true
  · rw [hoff] at c0
    have e0 : dread d n = ([], 20) := by unfold dread; rw [if_pos hoff]
    rw [e0]
    clear hoff e0 hC hl h hk
    go_enter Tryz.func21, Tryz.ntmps21
    go_wp2
    go_ret2
    exact ⟨rfl, rfl⟩
  · have hoff' : d.off = false := by simpa using hoff
    rw [hoff'] at c0
    cases hg : tget d.now n with
    | none =>
      have e0 : dread d n = ([], 18) := by unfold dread; rw [if_neg hoff, hg]
      rw [e0]
      rw [thereNo_none hg, errV_no (by omega)] at hC
      clear hoff hoff' e0 hl h hk hg
      go_enter Tryz.func21, Tryz.ntmps21
      go_wp2_with (go_at_call 63; refine hC.mono ?_; rintro e w' ⟨rfl, rfl⟩)
      go_ret2
      exact ⟨rfl, rfl⟩
    | some f =>
      have e0 : dread d n = ((fat d.files f).data, 0) := by unfold dread; rw [if_neg hoff, hg]
      rw [e0]
      rw [thereNo_some hg, errV_0] at hC
      obtain ⟨f0, f1⟩ := h.fcells (hk.nowIn _ (tget_mem hg))
      rw [hg] at hl
      simp only [fileV] at hl
      clear hoff hoff' e0 h hk hg
      go_enter Tryz.func21, Tryz.ntmps21
      go_wp2_with (go_at_call 63; refine hC.mono ?_; rintro e w' ⟨rfl, rfl⟩)
      go_ret2
      exact ⟨rfl, rfl⟩

def NewPost (room : Int) (w : World) (e : Ending) (w' : World) : Prop :=
  ∃ g L, e = .returned (.pointer (some ⟨g, 0, none⟩)) ∧ DiskIn w' g L (dnew room) 0 ∧ Below w.heap.size w w' ∧ ∀ k ∈ L.foot g, w.heap.size ≤ k
set_option maxHeartbeats 1000000 in
set_option maxRecDepth 100000 in
theorem dkNew_any (w : World) (room : Int) : Calls Tryz.prog 11 #[.int .i64 room] w (NewPost room w) := by
  have hmm := @run_makeMap Tryz.prog
  go_enter Tryz.func11, Tryz.ntmps11
  go_wp2
  go_ret
  have e1 : min (max room 0) 268435456 = (((dnew room).room : Nat) : Int) := by show _ = (((min (max room 0) 268435456).toNat : Nat) : Int); omega
  rw [e1]
  have s1 : (w.alloc (.map #[] 0)).heap.size = w.heap.size + 1 := by simp
  have s2 : ((w.alloc (.map #[] 0)).alloc (.map #[] 0)).heap.size = w.heap.size + 2 := by simp
  have hm1 : MapIs (w.alloc (.map #[] 0)) w.heap.size [] [] 0 := MapIs.fresh w []
  have hm2 : MapIs ((w.alloc (.map #[] 0)).alloc (.map #[] 0)) (w.heap.size + 1) [] [] 0 := by
    have := MapIs.fresh (w.alloc (.map #[] 0)) []
    rwa [s1] at this
  have hm1' := hm1.same (w' := (w.alloc (.map #[] 0)).alloc (.map #[] 0)) (Below.heap_alloc _ _ _ (by omega))
  have hb := Blk.new ((w.alloc (.map #[] 0)).alloc (.map #[] 0)) (dkCells ⟨w.heap.size, w.heap.size + 1, [], [], [], .slice none 0 0, .slice none 0 0⟩ (dnew room)) 101
  rw [s2] at hb
  have hB : Below w.heap.size w (((w.alloc (.map #[] 0)).alloc (.map #[] 0)).alloc (.cells (dkCells ⟨w.heap.size, w.heap.size + 1, [], [], [], .slice none 0 0, .slice none 0 0⟩ (dnew room)).toArray 101)) := (((Below.refl _ w).alloc (Nat.le_refl _) _).alloc (by omega) _).alloc (by omega) _
  refine ⟨w.heap.size + 2, ⟨w.heap.size, w.heap.size + 1, [], [], [], .slice none 0 0, .slice none 0 0⟩, rfl, ⟨hb, hm1'.same (Below.heap_alloc _ _ _ (by omega)), hm2.same (Below.heap_alloc _ _ _ (by omega)), rfl, fun i hi => (by cases hi), World.ownsRow_nil _ _ _ _, trivial, fun x hx => (by cases hx), World.ownsRow_nil _ _ _ _, ?_⟩, hB, ?_⟩
  · exact ⟨by show w.heap.size + 2 ≠ w.heap.size; omega, by show w.heap.size + 2 ≠ w.heap.size + 1; omega, by simp, by simp, fun k hk => (by cases hk), fun k hk => (by cases hk), by show w.heap.size ≠ w.heap.size + 1; omega, by simp, by simp, fun k hk => (by cases hk), fun k hk => (by cases hk), by simp, by simp, fun k hk => (by cases hk), fun k hk => (by cases hk), List.nodup_nil, fun k hk => (by cases hk), fun k hk => (by cases hk), fun k hk => (by cases hk), fun k hk => (by cases hk), fun k hk => (by cases hk)⟩
  · intro k hk
    rcases foot_cases hk with rfl | rfl | rfl | hk | hk | hk | hk
    · omega
    · exact Nat.le_refl _
    · exact Nat.le_succ _
    · cases hk
    · cases hk
    · cases hk
    · cases hk

theorem dkRevive_any (w : World) (g : Nat) (L : Lay) (d : Dk) (N : Nat) (h : DiskIn w g L d N) : Calls Tryz.prog 19 #[.pointer (some ⟨g, 0, none⟩)] w fun e w' => e = .returned (.tuple #[]) ∧ DiskIn w' g L (drevive d) N ∧ Stp (L.foot g) (L.foot g) w w' := by
  obtain ⟨c0, c1, c2, c3, c4, c5, c6⟩ := h.cells
  have f0 := h.blk.free 0
  have HD := Lib.hid h
  clear h
  go_enter Tryz.func19, Tryz.ntmps19
  go_wp2
  go_end0
  exact ⟨rfl, HD.out.setHead rfl rfl rfl rfl rfl (HD.out.blk.set 0 (.bool false)) (by simp [World.setCell]) (fun k _ hk => Below.heap_setCell _ _ _ _ hk), Stp.of_set _ _ _ foot_g (fun k hk => Or.inl hk)⟩

def dcrash (d : Dk) (keep : List Int) : Dk := if d.off = true then d else dfail d keep
def DonePost (g : Nat) (L : Lay) (d' : Dk) (N : Nat) (w : World) (e : Ending) (w' : World) : Prop :=
  e = .returned (.tuple #[]) ∧ ∃ L' : Lay, DiskIn w' g L' d' N ∧ Stp (L.foot g) (L'.foot g) w w'
set_option maxHeartbeats 1000000 in
set_option maxRecDepth 100000 in
theorem dkCrash_any (w : World) (g : Nat) (L : Lay) (d : Dk) (N : Nat) (kv : Value) (keep : List Int) (h : DiskIn w g L d N) (hk : DkOk d) (hb : DkB d N) (hN : N < 4294967296) (hi : IntsAt w kv keep) (hkv : ∀ j, usesOf kv keep = some j → j < w.heap.size ∧ j ∉ L.foot g) :
    Calls Tryz.prog 18 #[.pointer (some ⟨g, 0, none⟩), .agg #[kv]] w (DonePost g L (dcrash d keep) N w) := by
  have hS : Below w.heap.size w (w.alloc (.cells #[kv] 26)) := (Below.refl _ w).alloc (Nat.le_refl _) _
  have hC := dkfail_any _ g L d N kv keep (h.below hS) hk hb hN (hi.same fun k hk => hS.block k (hkv k hk).1) (fun j hj => ⟨Nat.lt_of_lt_of_le (hkv j hj).1 hS.size, fun e => (hkv j hj).2 (e ▸ foot_bs), fun e => (hkv j hj).2 (foot_F e)⟩)
  have hbx := Blk.new w [kv] 26
  have k0 := hbx.cell 0
  simp only [List.getElem?_cons_zero] at k0
  obtain ⟨c0, c1, c2, c3, c4, c5, c6⟩ := (h.below hS).cells
  have HS := Lib.hid hS
  have HD := Lib.hid h
  obtain ⟨ka, kn, kc, rfl⟩ := hi.shape
  by_cases hoff : d.off = true
  · have e0 : dcrash d keep = d := by unfold dcrash; rw [if_pos hoff]
    rw [hoff] at c0
    rw [e0]
    clear hoff e0 hC h hk hb hS hi hkv
    go_enter Tryz.func18, Tryz.ntmps18
    go_wp2
    go_end0
    exact ⟨rfl, L, HD.out.below HS.out, Stp.of_below HS.out (fun k hk => Or.inl hk)⟩
  · have hoff' : d.off = false := by simpa using hoff
    have e0 : dcrash d keep = dfail d keep := by unfold dcrash; rw [if_neg hoff]
    rw [hoff'] at c0
    rw [e0]
    have HC := Lib.hid hC
    clear hoff hoff' e0 h hk hb hS hi hkv hC
    go_enter Tryz.func18, Tryz.ntmps18
    go_wp2_with (go_at_call 68; refine HC.out.mono ?_; rintro e w1 ⟨rfl, L', h1, h2⟩; have H1 := Lib.hid h1; have H2 := Lib.hid h2; clear h1 h2)
    go_end0
    exact ⟨rfl, L', H1.out, (Stp.of_below HS.out (fun k hk => Or.inl hk)).trans H2.out⟩

theorem CloneInts_any (w : World) (v : Value) (l : List Int) (h : IntsAt w v l) (hl : l.length * 8 ≤ 140737488355328) : Calls Tryz.prog 81 #[v] w fun e w' => ∃ v', e = .returned v' ∧ w'.ownsRow w.heap.size 3 1 v' l.length (l.map (Value.int .i64)) ∧ Below w.heap.size w w' := by
  rcases h with ⟨rfl, a, cap, rfl⟩ | ⟨b, off, cap, rfl, h1, h2, h3⟩
  · cases a with
    | none => exact (Any.slices_Clone_int_nil layClone 0 cap w).mono fun e w' ⟨he, hw⟩ => ⟨_, he, World.ownsRow_nil _ _ _ _, hw ▸ Below.refl _ _⟩
    | some a => exact (Any.slices_Clone_int_zero layClone a cap w).mono fun e w' ⟨v', he, hr, _, hb⟩ => ⟨v', he, hr, hb⟩
  · refine (Any.slices_Clone_int layClone b off l.length cap l w (Nat.le_refl _) hl (fun j hj => h3 j _ ?_)).mono fun e w' ⟨v', he, hr, _, hb⟩ => ⟨v', he, ?_, hb⟩
    · rw [List.getElem?_eq_getElem hj, List.getD_eq_getElem?_getD, List.getElem?_eq_getElem hj]; rfl
    · rw [List.take_length] at hr
      exact hr
theorem row_base {w : World} {B : Nat} {e : TypeId} {size : Nat} {v : Value} {n : Nat} {xs : List Value} (h : w.ownsRow B e size v n xs) : w.ownsRow 0 e size v n xs := by
  refine ⟨h.1, ?_⟩
  rcases h.2 with h2 | ⟨g, cap, cur, hv, hb, rest⟩
  · exact Or.inl h2
  · exact Or.inr ⟨g, cap, cur, hv, Nat.zero_le _, rest⟩
def darm (d : Dk) (n : Int) (keep : List Int) : Dk := { d with armed := (max n 0).toNat, fate := keep }
theorem DiskIn.arm {w w2 : World} {g : Nat} {L : Lay} {d : Dk} {N : Nat} {n : Int} {keep : List Int} {v : Value} (h : DiskIn w g L d N) (hr : w2.ownsRow w.heap.size 3 1 v keep.length (keep.map (Value.int .i64))) (hb : Below w.heap.size w w2) :
    DiskIn ((w2.setCell ⟨g, 5, none⟩ (.int .i64 (max n 0))).setCell ⟨g, 6, none⟩ v) g { L with vf := v } (darm d n keep) N ∧ Stp (L.foot g) ({ L with vf := v : Lay }.foot g) w ((w2.setCell ⟨g, 5, none⟩ (.int .i64 (max n 0))).setCell ⟨g, 6, none⟩ v) := by
  have ap := h.apart
  have hlt := h.lt
  have hgl := h.blk.lt
  have hvb : ∀ k, v.ownBlock = some k → w.heap.size ≤ k := fun k hk => (hr.lt k hk).1
  have hoth : ∀ k, k ≠ g → ((w2.setCell ⟨g, 5, none⟩ (.int .i64 (max n 0))).setCell ⟨g, 6, none⟩ v).heap[k]? = w2.heap[k]? := fun k hk => set2_old hk
  have hold : ∀ k ∈ L.foot g, k ≠ g → ((w2.setCell ⟨g, 5, none⟩ (.int .i64 (max n 0))).setCell ⟨g, 6, none⟩ v).heap[k]? = w.heap[k]? := fun k hk hg => (hoth k hg).trans (hb.block k (hlt k hk))
  have hsz : w.heap.size ≤ ((w2.setCell ⟨g, 5, none⟩ (.int .i64 (max n 0))).setCell ⟨g, 6, none⟩ v).heap.size := by have := hb.size; simpa [World.setCell] using this
  have hne : ∀ k ∈ L.foot g, ∀ j, v.ownBlock = some j → k ≠ j := fun k hk j hj e => by have := hlt k hk; have := hvb j hj; omega
  refine ⟨⟨?_, h.now.same (hold _ foot_bn ap.gbn.symm), h.safe.same (hold _ foot_bs ap.gbs.symm), h.len, fun i hi => ?_, ownsRow_same h.row fun k hk => hold k (foot_vp hk) (fun e => ap.gvp k hk e.symm), h.pend.same fun k hk => hold k (foot_X hk) (fun e => ap.gX (e ▸ hk)), fun x hx => Nat.lt_of_lt_of_le (h.boxes x hx) hsz, ?_, ?_⟩, ?_⟩
  · have e1 : max n 0 = (((darm d n keep).armed : Nat) : Int) := by show _ = (((max n 0).toNat : Nat) : Int); omega
    rw [e1]
    exact ((h.blk.below hb hgl).set 5 _).set 6 v
  · have hm := getD_mem (F := L.F) (i := i) (by rw [h.len]; exact hi)
    exact (h.files i hi).same (hold _ (foot_F hm) (fun e => ap.gF (e ▸ hm)))
  · show World.ownsRow _ 0 _ 1 v keep.length (keep.map (Value.int .i64))
    refine ownsRow_same (w := w2) ?_ fun k hk => hoth k (fun e => hne g foot_g k hk e.symm)
    exact row_base hr
  · exact ⟨ap.gbn, ap.gbs, ap.gF, ap.gX, ap.gvp, fun k hk => hne g foot_g k hk, ap.nbs, ap.nF, ap.nX, ap.nvp, fun k hk => hne _ foot_bn k hk, ap.sF, ap.sX, ap.svp, fun k hk => hne _ foot_bs k hk, ap.FF, ap.FX, ap.Fvp, fun k hk e => hne k (foot_F e) k hk rfl, ap.Xvp, fun k hk e => hne k (foot_vp hk) k e rfl⟩
  · refine ⟨hb.os, hb.tape, hb.output, hsz, fun k hk hA => (hoth k (fun e => hA (e ▸ foot_g))).trans (hb.block k hk), fun k hk => ?_⟩
    rcases foot_cases hk with rfl | rfl | rfl | hk | hk | hk | hk
    · exact Or.inl foot_g
    · exact Or.inl foot_bn
    · exact Or.inl foot_bs
    · exact Or.inl (foot_F hk)
    · exact Or.inl (foot_X hk)
    · exact Or.inl (foot_vp hk)
    · exact Or.inr (hvb k hk)
set_option maxHeartbeats 1000000 in
set_option maxRecDepth 100000 in
theorem dkArm_any (w : World) (g : Nat) (L : Lay) (d : Dk) (N : Nat) (n : Int) (kv : Value) (keep : List Int) (h : DiskIn w g L d N) (hi : IntsAt w kv keep) (hl : keep.length * 8 ≤ 140737488355328) (hkv : ∀ j, usesOf kv keep = some j → j < w.heap.size) :
    Calls Tryz.prog 26 #[.pointer (some ⟨g, 0, none⟩), .int .i64 n, .agg #[kv]] w (DonePost g L (darm d n keep) N w) := by
  have hS : Below w.heap.size w (w.alloc (.cells #[kv] 26)) := (Below.refl _ w).alloc (Nat.le_refl _) _
  have hD1 := h.below hS
  have hgl := hD1.blk.lt
  have hC := (CloneInts_any _ kv keep (hi.same fun k hk => hS.block k (hkv k hk)) hl).mono (R' := fun e w2 => ∃ v', e = .returned v' ∧ Hid (w2.ownsRow (w.alloc (.cells #[kv] 26)).heap.size 3 1 v' keep.length (keep.map (Value.int .i64)) ∧ Below (w.alloc (.cells #[kv] 26)).heap.size (w.alloc (.cells #[kv] 26)) w2)) (fun e w2 ⟨v', he, h1, h2⟩ => ⟨v', he, h1, h2⟩)
  have hbx := Blk.new w [kv] 26
  have k0 := hbx.cell 0
  simp only [List.getElem?_cons_zero] at k0
  have HS := Lib.hid hS
  have HD := Lib.hid hD1
  have HC := Lib.hid hC
  obtain ⟨ka, kn, kc, rfl⟩ := hi.shape
  clear h hS hi hkv hD1 hC
  go_enter Tryz.func26, Tryz.ntmps26
  go_wp2_with (fail)
  refine HC.out.mono ?_
  rintro e w2 ⟨v', rfl, hh⟩
  obtain ⟨va, vc, hv, _⟩ := row_open hh.out.1
  have hb2 := HD.out.blk.below hh.out.2 hgl
  have j5 := hb2.cell 5
  have j6 := hb2.cell 6
  have z5 := hb2.free 5
  have z6 := hb2.free 6
  simp only [dkCells, List.getElem?_cons_zero, List.getElem?_cons_succ] at j5 j6
  have HV := Lib.hid hv
  clear hb2 hv
  have hfin := Lib.hid (DiskIn.arm (n := n) HD.out hh.out.1 hh.out.2)
  rw [HV.out] at hfin ⊢
  go_wp2
  go_end0
  exact ⟨rfl, _, hfin.out.1, (Stp.of_below HS.out (fun k hk => Or.inl hk)).trans hfin.out.2⟩
end Go.Proofs.YtfgpigblnkanpaaGreatDoor

namespace Go.Proofs.YtfgpigblnkanpaaGreatDoor
set_option linter.unusedVariables false
open Go.RowKit Go.Maps Go.Shelf

theorem prefix_take (p a : List UInt8) : p.isPrefixOf a = decide (p.length ≤ a.length ∧ a.take p.length = p) := by
  rw [Bool.eq_iff_iff, List.isPrefixOf_iff_prefix, decide_eq_true_iff]
  constructor
  · intro h
    exact ⟨h.length_le, (List.prefix_iff_eq_take.1 h).symm⟩
  · intro h
    rw [← h.2]; exact List.take_prefix _ _
set_option maxHeartbeats 1000000 in
set_option maxRecDepth 100000 in
theorem HasPrefix_any (a p : List UInt8) (w : World) (_ha : a.length ≤ 9223372036854775807) (_hp : p.length ≤ 9223372036854775807) : Calls Tryz.prog 60 #[strV a, strV p] w fun e w' => e = .returned (.bool (p.isPrefixOf a)) ∧ w = w' := by
  have h1 := str_size a
  have h2 := str_size p
  rw [prefix_take]
  by_cases hl : p.length ≤ a.length
  · have hs := slice_pre a p.length hl
    have ht1 := toList_str (a.take p.length)
    have ht2 := toList_str p
    by_cases he : a.take p.length = p
    · rw [decide_eq_true (⟨hl, he⟩ : p.length ≤ a.length ∧ a.take p.length = p)]
      rw [he] at hs
      have HE := Lib.hid he
      clear he ht1
      go_enter Tryz.func60, Tryz.ntmps60
      go_wp2
      go_ret
      exact ⟨rfl, rfl⟩
    · rw [decide_eq_false (fun h => he h.2 : ¬ (p.length ≤ a.length ∧ a.take p.length = p))]
      have hq : ((str (a.take p.length)).toList == (str p).toList) = false := by rw [ht1, ht2]; simpa using he
      have HQ := Lib.hid hq
      have HE := Lib.hid he
      clear he ht1 ht2 hq
      go_enter Tryz.func60, Tryz.ntmps60
      go_wp2
      go_ret
      refine ⟨?_, rfl⟩
      show Ending.returned (.bool ((str (a.take p.length)).toList == (str p).toList)) = _
      rw [HQ.out]
  · rw [decide_eq_false (fun h => hl h.1 : ¬ (p.length ≤ a.length ∧ a.take p.length = p))]
    go_enter Tryz.func60, Tryz.ntmps60
    go_wp2
    go_ret
    exact ⟨rfl, rfl⟩

theorem row_down {w : World} {B B' : Nat} {e : TypeId} {size : Nat} {v : Value} {n : Nat} {xs : List Value} (h : w.ownsRow B e size v n xs) (hB : B' ≤ B) : w.ownsRow B' e size v n xs := by
  refine ⟨h.1, ?_⟩
  rcases h.2 with h2 | ⟨g, cap, cur, hv, hb, rest⟩
  · exact Or.inl h2
  · exact Or.inr ⟨g, cap, cur, hv, Nat.le_trans hB hb, rest⟩
theorem infoStr : (Tryz.prog.info? 9).map (fun i => (i.zero, i.size, i.bytes)) = some (some (strV []), 1, 16) := by kernel_rfl
def ListPost (d : Dk) (head : List UInt8) (w : World) (e : Ending) (w' : World) : Prop :=
  ∃ v, e = .returned (.tuple #[v, errV (if d.off = true then 20 else 0)]) ∧ w'.ownsRow w.heap.size 9 1 v (dlist d head).length ((dlist d head).map strV) ∧ (dlist d head = [] → v = .slice none 0 0) ∧ Below w.heap.size w w'
set_option maxHeartbeats 2000000 in
set_option maxRecDepth 100000 in
theorem dkList_any (w : World) (g : Nat) (L : Lay) (d : Dk) (N : Nat) (head : List UInt8) (hh : head.length ≤ 9223372036854775807) (h : DiskIn w g L d N) (hk : DkOk d) (hb : DkB d N) (hN : N < 4294967296) :
    Calls Tryz.prog 14 #[.pointer (some ⟨g, 0, none⟩), strV head] w (ListPost d head w) := by
  obtain ⟨c0, c1, c2, c3, c4, c5, c6⟩ := h.cells
  have hgl := h.blk.lt
  by_cases hoff : d.off = true
  · rw [hoff] at c0
    have e0 : dlist d head = [] := by unfold dlist; rw [if_pos hoff]
    have HO := Lib.hid hoff
    have HE := Lib.hid e0
    clear hoff e0 h hk hb
    go_enter Tryz.func14, Tryz.ntmps14
    go_wp2
    go_ret2
    refine ⟨.slice none 0 0, by rw [if_pos HO.out]; rfl, ?_, fun _ => rfl, Below.refl _ _⟩
    rw [HE.out]
    exact World.ownsRow_nil _ _ _ _
  · have hoff' : d.off = false := by simpa using hoff
    rw [hoff'] at c0
    have e0 : dlist d head = (tnames d.now).filter fun n => head.isPrefixOf n := by unfold dlist; rw [if_neg hoff]; rfl
    have hK := mapsKeys_any (some L.bn) w
    have hS := h.now.sorted hk.now hN
    unfold SortedPost at hS
    have htl : (tnames d.now).length < 4294967296 := by unfold tnames; rw [List.length_map]; have := hb.now; omega
    have hnl := h.now.nameLen
    obtain ⟨i0, hi, hz0, hz1, hz2⟩ := info_parts infoStr
    have HO := Lib.hid hoff
    have HE := Lib.hid e0
    have HNL := Lib.hid hnl
    clear hoff hoff' e0 h hk hb hnl
    generalize tnames d.now = ns at *
    go_enter Tryz.func14, Tryz.ntmps14
    go_wp2_with (first
      | (go_at_call 59; refine hK.mono ?_; rintro e w2 ⟨rfl, rfl⟩)
      | (go_at_call 58; refine hS.mono ?_; rintro e w3 ⟨v, rfl, hr, hnil, hb⟩; obtain ⟨sa, sc, rfl, hsn⟩ := row_open hr; have HRN := Lib.hid hr; have HSN := Lib.hid hsn; have HB3 := Lib.hid hb; clear hr hnil hsn hb))
    obtain ⟨flt, hflt⟩ : ∃ flt : Nat → List Nm, Hid (∀ k, flt k = (ns.take k).filter fun n => head.isPrefixOf n) := ⟨_, fun _ => rfl⟩
    have hz3 : w.heap.size ≤ w3.heap.size := by have := HB3.out.size; simp at this; omega
    have hBase : Below w.heap.size w w3 := ((Below.refl _ w).alloc (Nat.le_refl _) _).trans (HB3.out.mono (by simp))
    have HBase := Lib.hid hBase
    clear hBase
    go_loopw [6, 21] (fun lv jv wr => ∃ k : Nat, jv = .int .i64 k ∧ k ≤ ns.length ∧ Hid (flt k = [] → lv = .slice none 0 0) ∧ wr.ownsRow w3.heap.size 9 1 lv (flt k).length ((flt k).map strV) ∧ Below w3.heap.size w3 wr) (fun _ jv _ => ns.length - (intOf jv).toNat)
    case atStart => exact ⟨0, rfl, Nat.zero_le _, fun _ => rfl, by rw [hflt.out]; exact World.ownsRow_nil _ _ _ _, Below.refl _ _⟩
    case round =>
      obtain ⟨k, rfl, hkn, hnil, hown, hbel⟩ := hrel
      have hzr := hbel.size
      by_cases hlt : k < ns.length
      · obtain ⟨nm, hx⟩ : ∃ x, ns[k]? = some x := ⟨_, List.getElem?_eq_getElem hlt⟩
        obtain ⟨gs, rfl, hsc, hgs⟩ := HSN.out k (strV nm) (by rw [List.getElem?_map, hx]; rfl)
        have hgb := HRN.out.lt gs hgs
        have hnc := (hbel.cell (p := ⟨gs, k, none⟩) hgb.2).trans hsc
        have hnml : nm.length ≤ 9223372036854775807 := by have := HNL.out nm (List.mem_of_getElem? hx); unfold maxLen at this; exact this
        have hP := HasPrefix_any nm head wr hnml hh
        have htk : ns.take (k + 1) = ns.take k ++ [nm] := by
          rw [List.take_add_one, hx]; rfl
        have hlen : (flt k).length ≤ k := by rw [hflt.out]; exact Nat.le_trans (List.length_filter_le _ _) (List.length_take_le _ _)
        have HTK := Lib.hid htk
        have HX := Lib.hid hx
        have HGS := Lib.hid hgs
        clear htk hx hsc hgs hgb
        cases hpre : head.isPrefixOf nm with
        | true =>
          rw [hpre] at hP
          have hf2 : flt (k + 1) = flt k ++ [nm] := by rw [hflt.out, hflt.out, HTK.out, List.filter_append]; simp [hpre]
          have HF2 := Lib.hid hf2
          have HPRE := Lib.hid hpre
          clear hf2 hpre
          go_wp2_with (first
            | (go_at_call 60; refine hP.mono ?_; rintro e w4 ⟨rfl, rfl⟩)
            | (at_builtin; refine wpList_append_own _ rfl (.tmp 28) (.tmp 30) 37 rfl w3.heap.size 9 i0 (strV []) 1 16 Tryz.underlying37 hi hz0 hz1 hz2 rfl (by decide) _ _ _ rfl (hown.alloc _) ⟨wr.heap.size, 0, none⟩ 1 1 [strV nm] rfl rfl ?c1 ?c2 ?c3 ?c4 ?c5 ?_))
          case c1 => exact World.news_of_block (cs := #[strV nm]) (t := 9) (fr := (0, 0)) (heap_alloc_new wr _)
          case c2 => intro u hu; simp at hu; subst hu; rfl
          case c3 => unfold maxLen; omega
          case c4 => omega
          case c5 => simp; omega
          intro v' w5 hown5 hgrow5 hv5
          have hbel5 : Below w3.heap.size w3 w5 := (hbel.alloc hzr _).grown hgrow5 (by simp; omega) (fun j hj => (hown.lt j hj).1)
          have HO5 := Lib.hid hown5
          have HV5 := Lib.hid hv5
          clear hown5 hgrow5 hv5 hown
          go_wp2
          go_roundw
          case rel => exact ⟨k + 1, by go_num, by omega, (by intro h0; rw [HF2.out] at h0; simp at h0), by rw [HF2.out, List.length_append, List.map_append]; exact HO5.out, hbel5⟩
          case measure => simp [intOf]; omega
        | false =>
          rw [hpre] at hP
          have hf2 : flt (k + 1) = flt k := by rw [hflt.out, hflt.out, HTK.out, List.filter_append]; simp [hpre]
          have HF2 := Lib.hid hf2
          have HPRE := Lib.hid hpre
          clear hf2 hpre
          go_wp2_with (first
            | (go_at_call 60; refine hP.mono ?_; rintro e w4 ⟨rfl, rfl⟩))
          go_roundw
          case rel => exact ⟨k + 1, by go_num, by omega, by rw [HF2.out]; exact hnil, by rw [HF2.out]; exact hown, hbel⟩
          case measure => simp [intOf]; omega
      · have hk2 : ns.take k = ns := List.take_of_length_le (by omega)
        have hfin : flt k = dlist d head := by rw [hflt.out, hk2, HE.out]
        have HFIN := Lib.hid hfin
        have HOWN := Lib.hid hown
        clear hk2 hfin hown
        go_wp2_with (fail)
        go_ret2
        refine ⟨u6, by rw [if_neg HO.out]; rfl, ?_, ?_, HBase.out.trans (hbel.mono hz3)⟩
        · rw [← HFIN.out]
          exact row_down HOWN.out hz3
        · rw [← HFIN.out]
          exact hnil.out
end Go.Proofs.YtfgpigblnkanpaaGreatDoor
