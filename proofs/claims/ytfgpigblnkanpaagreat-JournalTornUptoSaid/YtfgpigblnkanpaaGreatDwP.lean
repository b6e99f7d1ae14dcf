/- The walks of a disk's operations: Create, Write, Sync, Rename, Remove, Flush. -/
import Derived.Test.YtfgpigblnkanpaaGreatDwO
namespace Go.Proofs.YtfgpigblnkanpaaGreat
set_option linter.unusedVariables false
open Go.RowKit Go.Maps Go.Shelf

def DoPost (g : Nat) (L : Lay) (d : Dk) (o : Od) (N : Nat) (w : World) (e : Ending) (w' : World) : Prop :=
  e = .returned (errV (ddo d o).2) ∧ ∃ L' : Lay, DiskIn w' g L' (ddo d o).1 (N + 1) ∧ Stp (L.foot g) (L'.foot g) w w'
/-- Behind the boxes of an operation's own. -/
theorem DoPost.of {g : Nat} {L : Lay} {d : Dk} {o : Od} {N : Nat} {w w1 w2 : World} {Y : List Nat} {e : Ending} (hb : Below w.heap.size w w1) (hY : ∀ y ∈ Y, w.heap.size ≤ y) (h : OpPost g L (ddo d o).1 (ddo d o).2 N Y w1 e w2) : DoPost g L d o N w e w2 := by
  obtain ⟨he, L', hL, hS⟩ := h
  refine ⟨he, L', hL, hS.os.trans hb.os, hS.tape.trans hb.tape, hS.output.trans hb.output, Nat.le_trans hb.size hS.size, fun k hk hA => (hS.block k (Nat.lt_of_lt_of_le hk hb.size) (fun hm => ?_)).trans (hb.block k hk), fun k hk => ?_⟩
  · rcases List.mem_append.1 hm with hm | hm
    · exact hA hm
    · have := hY k hm; omega
  · rcases hS.inn k hk with hm | hm
    · rcases List.mem_append.1 hm with hm | hm
      · exact Or.inl hm
      · exact Or.inr (hY k hm)
    · exact Or.inr (Nat.le_trans hb.size hm)
theorem three_new (w : World) (u v x : Value) (s t r : TypeId) : Below w.heap.size w (((w.alloc (.cells #[u] s)).alloc (.cells #[v] t)).alloc (.cells #[x] r)) ∧ Blk (((w.alloc (.cells #[u] s)).alloc (.cells #[v] t)).alloc (.cells #[x] r)) w.heap.size [u] s ∧ Blk (((w.alloc (.cells #[u] s)).alloc (.cells #[v] t)).alloc (.cells #[x] r)) (w.heap.size + 1) [v] t ∧ Blk (((w.alloc (.cells #[u] s)).alloc (.cells #[v] t)).alloc (.cells #[x] r)) (w.heap.size + 2) [x] r ∧ (((w.alloc (.cells #[u] s)).alloc (.cells #[v] t)).alloc (.cells #[x] r)).heap.size = w.heap.size + 3 := by
  obtain ⟨h1, h2, h3, h4⟩ := two_new w u v s t
  have := Blk.new ((w.alloc (.cells #[u] s)).alloc (.cells #[v] t)) [x] r
  rw [h4] at this
  exact ⟨h1.alloc (by omega) _, h2.alloc _, h3.alloc _, this, by rw [World.size_alloc, h4]⟩
theorem Blk.stays {w w' : World} {b : Nat} {xs : List Value} {t : TypeId} (h : Blk w b xs t) (g : Nat) (L : Lay) (hs : ∀ k, k < w.heap.size → k ∉ L.foot g → w'.heap[k]? = w.heap[k]?) (hn : b ∉ L.foot g) : Blk w' b xs t := h.same (hs b h.lt hn)
theorem refused_some {d : Dk} {n : Nm} (h : thereNo d.now n = 0) : ∃ f, tget d.now n = some f := by
  unfold thereNo at h
  cases hg : tget d.now n with
  | some f => exact ⟨f, rfl⟩
  | none => rw [hg] at h; simp at h
theorem dless_now (d : Dk) : (dless d).now = d.now := rfl

set_option maxHeartbeats 1000000 in
set_option maxRecDepth 100000 in
theorem dkRemove_any (w : World) (g : Nat) (L : Lay) (d : Dk) (N : Nat) (n : Nm) (h : DiskIn w g L d N) (hk : DkOk d) (hb : DkB d N) (hN : N + 1 < 4294967296) (hn : n.length ≤ 9223372036854775807) :
    Calls Tryz.prog 43 #[.pointer (some ⟨g, 0, none⟩), strV n] w (DoPost g L d (.remove n) N w) := by
  obtain ⟨hS, hx, hy, hsz⟩ := two_new w (.pointer (some ⟨g, 0, none⟩)) (strV n) 24 9
  have hlt := h.lt
  have hmf : ∀ (fn : Fn) (first cap : Array Value) (w : World), (Instr.makeFunc fn first cap).run Tryz.prog w = .ok (.func fn first cap) w := fun _ _ _ _ => rfl
  have hC := dkoperate_any _ g L d N (.remove n) false 52 53 #[.pointer (some ⟨w.heap.size, 0, none⟩), .pointer (some ⟨w.heap.size + 1, 0, none⟩)] #[.pointer (some ⟨w.heap.size, 0, none⟩), .pointer (some ⟨w.heap.size + 1, 0, none⟩)] [w.heap.size + 1] (h.below hS) hk hb hN hn (by simp) (enters_of Tryz.func52 (by kernel_rfl) rfl) (enters_of Tryz.func53 (by kernel_rfl) rfl)
    (fun w1 hb1 => dkRemoveR_any w1 g L d N _ _ n hn ((h.below hS).below hb1) hk (hx.below hb1 hx.lt) (hy.below hb1 hy.lt))
    (fun hh => by cases hh) (fun _ => rfl)
    (fun _ _ w1 hD hz hs => dkRemoveA_any w1 g L (dless d) N _ _ n hn hD (hk.armed _) (hb.armed' _ (by have := hb.armed; omega)) (by omega) (hx.stays g L hs (fun hm => by have := hlt _ hm; omega)) (hy.stays g L hs (fun hm => by have := hlt _ hm; omega)) (fun hm => by have := hlt _ hm; omega))
  have HS := Lib.hid hS
  have HC := Lib.hid hC
  have hx0 := hx.cell 0
  clear h hk hb hS hx hy hC
  go_enter Tryz.func43, Tryz.ntmps43
  go_wp2_with (fail)
  refine HC.out.mono ?_
  rintro e w1 hp
  have HP := Lib.hid (DoPost.of HS.out (by simp) hp)
  obtain ⟨rfl, -⟩ := hp
  go_wp2
  go_ret
  exact HP.out
set_option maxHeartbeats 1000000 in
set_option maxRecDepth 100000 in
theorem dkCreate_any (w : World) (g : Nat) (L : Lay) (d : Dk) (N : Nat) (n : Nm) (h : DiskIn w g L d N) (hk : DkOk d) (hb : DkB d N) (hN : N + 1 < 4294967296) (hn : n.length ≤ 9223372036854775807) :
    Calls Tryz.prog 15 #[.pointer (some ⟨g, 0, none⟩), strV n] w (DoPost g L d (.create n) N w) := by
  obtain ⟨hS, hx, hy, hsz⟩ := two_new w (.pointer (some ⟨g, 0, none⟩)) (strV n) 24 9
  have hlt := h.lt
  have hmf : ∀ (fn : Fn) (first cap : Array Value) (w : World), (Instr.makeFunc fn first cap).run Tryz.prog w = .ok (.func fn first cap) w := fun _ _ _ _ => rfl
  have hC := dkoperate_any _ g L d N (.create n) false 26 28 #[.pointer (some ⟨w.heap.size + 1, 0, none⟩), .pointer (some ⟨w.heap.size, 0, none⟩)] #[.pointer (some ⟨w.heap.size, 0, none⟩), .pointer (some ⟨w.heap.size + 1, 0, none⟩)] [w.heap.size + 1] (h.below hS) hk hb hN hn (by simp) (enters_of Tryz.func26 (by kernel_rfl) rfl) (enters_of Tryz.func28 (by kernel_rfl) rfl)
    (fun w1 hb1 => dkCreateR_any w1 g L d N _ _ n hn ((h.below hS).below hb1) hk (hx.below hb1 hx.lt) (hy.below hb1 hy.lt))
    (fun hh => by cases hh) (fun _ => rfl)
    (fun _ _ w1 hD hz hs => dkCreateA_any w1 g L (dless d) N _ _ n hn hD (hk.armed _) (hb.armed' _ (by have := hb.armed; omega)) (by omega) (hx.stays g L hs (fun hm => by have := hlt _ hm; omega)) (hy.stays g L hs (fun hm => by have := hlt _ hm; omega)) (fun hm => by have := hlt _ hm; omega))
  have HS := Lib.hid hS
  have HC := Lib.hid hC
  have hx0 := hx.cell 0
  clear h hk hb hS hx hy hC
  go_enter Tryz.func15, Tryz.ntmps15
  go_wp2_with (fail)
  refine HC.out.mono ?_
  rintro e w1 hp
  have HP := Lib.hid (DoPost.of HS.out (by simp) hp)
  obtain ⟨rfl, -⟩ := hp
  go_wp2
  go_ret
  exact HP.out
set_option maxHeartbeats 1000000 in
set_option maxRecDepth 100000 in
theorem dkSync_any (w : World) (g : Nat) (L : Lay) (d : Dk) (N : Nat) (n : Nm) (h : DiskIn w g L d N) (hk : DkOk d) (hb : DkB d N) (hN : N + 1 < 4294967296) (hn : n.length ≤ 9223372036854775807) :
    Calls Tryz.prog 20 #[.pointer (some ⟨g, 0, none⟩), strV n] w (DoPost g L d (.sync n) N w) := by
  obtain ⟨hS, hx, hy, hsz⟩ := two_new w (.pointer (some ⟨g, 0, none⟩)) (strV n) 24 9
  have hlt := h.lt
  have hmf : ∀ (fn : Fn) (first cap : Array Value) (w : World), (Instr.makeFunc fn first cap).run Tryz.prog w = .ok (.func fn first cap) w := fun _ _ _ _ => rfl
  have hC := dkoperate_any _ g L d N (.sync n) true 37 38 #[.pointer (some ⟨w.heap.size, 0, none⟩), .pointer (some ⟨w.heap.size + 1, 0, none⟩)] #[.pointer (some ⟨w.heap.size, 0, none⟩), .pointer (some ⟨w.heap.size + 1, 0, none⟩)] [] (h.below hS) hk hb hN hn (by simp) (enters_of Tryz.func37 (by kernel_rfl) rfl) (enters_of Tryz.func38 (by kernel_rfl) rfl)
    (fun w1 hb1 => dkSyncR_any w1 g L d N _ _ n hn ((h.below hS).below hb1) hk (hx.below hb1 hx.lt) (hy.below hb1 hy.lt))
    (fun _ => rfl) (fun hh => by cases hh)
    (fun hr _ w1 hD hz hs => (by
      obtain ⟨f, hf⟩ := refused_some (by rw [refused_sync] at hr; exact hr)
      exact dkSyncA_any w1 g L (dless d) N _ _ f n hn hf hD (hk.armed _) (hx.stays g L hs (fun hm => by have := hlt _ hm; omega)) (hy.stays g L hs (fun hm => by have := hlt _ hm; omega))))
  have HS := Lib.hid hS
  have HC := Lib.hid hC
  have hx0 := hx.cell 0
  clear h hk hb hS hx hy hC
  go_enter Tryz.func20, Tryz.ntmps20
  go_wp2_with (fail)
  refine HC.out.mono ?_
  rintro e w1 hp
  have HP := Lib.hid (DoPost.of HS.out (by simp) hp)
  obtain ⟨rfl, -⟩ := hp
  go_wp2
  go_ret
  exact HP.out
set_option maxHeartbeats 1000000 in
set_option maxRecDepth 100000 in
theorem dkRename_any (w : World) (g : Nat) (L : Lay) (d : Dk) (N : Nat) (o n : Nm) (h : DiskIn w g L d N) (hk : DkOk d) (hb : DkB d N) (hN : N + 1 < 4294967296) (ho : o.length ≤ 9223372036854775807) (hn : n.length ≤ 9223372036854775807) :
    Calls Tryz.prog 60 #[.pointer (some ⟨g, 0, none⟩), strV o, strV n] w (DoPost g L d (.rename o n) N w) := by
  obtain ⟨hS, hx, hy, hz, hsz⟩ := three_new w (.pointer (some ⟨g, 0, none⟩)) (strV o) (strV n) 24 9 9
  have hlt := h.lt
  have hmf : ∀ (fn : Fn) (first cap : Array Value) (w : World), (Instr.makeFunc fn first cap).run Tryz.prog w = .ok (.func fn first cap) w := fun _ _ _ _ => rfl
  have hC := dkoperate_any _ g L d N (.rename o n) false 73 74 #[.pointer (some ⟨w.heap.size, 0, none⟩), .pointer (some ⟨w.heap.size + 1, 0, none⟩), .pointer (some ⟨w.heap.size + 2, 0, none⟩)] #[.pointer (some ⟨w.heap.size, 0, none⟩), .pointer (some ⟨w.heap.size + 1, 0, none⟩), .pointer (some ⟨w.heap.size + 2, 0, none⟩)] [w.heap.size + 1, w.heap.size + 2] (h.below hS) hk hb hN ⟨ho, hn⟩ (by simp) (enters_of Tryz.func73 (by kernel_rfl) rfl) (enters_of Tryz.func74 (by kernel_rfl) rfl)
    (fun w1 hb1 => dkRenameR_any w1 g L d N _ _ _ o n ho hn ((h.below hS).below hb1) hk (hx.below hb1 hx.lt) (hy.below hb1 hy.lt) (hz.below hb1 hz.lt))
    (fun hh => by cases hh) (fun _ => rfl)
    (fun _ _ w1 hD hzz hs => dkRenameA_any w1 g L (dless d) N _ _ _ o n ho hn hD (hk.armed _) (hb.armed' _ (by have := hb.armed; omega)) (by omega) (hx.stays g L hs (fun hm => by have := hlt _ hm; omega)) (hy.stays g L hs (fun hm => by have := hlt _ hm; omega)) (fun hm => by have := hlt _ hm; omega) (hz.stays g L hs (fun hm => by have := hlt _ hm; omega)) (fun hm => by have := hlt _ hm; omega))
  have HS := Lib.hid hS
  have HC := Lib.hid hC
  have hx0 := hx.cell 0
  clear h hk hb hS hx hy hz hC
  go_enter Tryz.func60, Tryz.ntmps60
  go_wp2_with (fail)
  refine HC.out.mono ?_
  rintro e w1 hp
  have HP := Lib.hid (DoPost.of HS.out (by simp) hp)
  obtain ⟨rfl, -⟩ := hp
  go_wp2
  go_ret
  exact HP.out
set_option maxHeartbeats 1000000 in
set_option maxRecDepth 100000 in
theorem dkWrite_any (w : World) (g : Nat) (L : Lay) (d : Dk) (N : Nat) (n : Nm) (s : List UInt8) (h : DiskIn w g L d N) (hk : DkOk d) (hb : DkB d N) (hN : N + 1 < 4294967296) (hn : n.length ≤ 9223372036854775807) (hsl : s.length ≤ 140737488355328) :
    Calls Tryz.prog 16 #[.pointer (some ⟨g, 0, none⟩), strV n, strV s] w (DoPost g L d (.write n s) N w) := by
  obtain ⟨hS, hx, hy, hz, hsz⟩ := three_new w (.pointer (some ⟨g, 0, none⟩)) (strV n) (strV s) 24 9 9
  have hlt := h.lt
  have hmf : ∀ (fn : Fn) (first cap : Array Value) (w : World), (Instr.makeFunc fn first cap).run Tryz.prog w = .ok (.func fn first cap) w := fun _ _ _ _ => rfl
  have hC := dkoperate_any _ g L d N (.write n s) false 31 33 #[.pointer (some ⟨w.heap.size, 0, none⟩), .pointer (some ⟨w.heap.size + 1, 0, none⟩), .pointer (some ⟨w.heap.size + 2, 0, none⟩)] #[.pointer (some ⟨w.heap.size, 0, none⟩), .pointer (some ⟨w.heap.size + 1, 0, none⟩), .pointer (some ⟨w.heap.size + 2, 0, none⟩)] [] (h.below hS) hk hb hN ⟨hn, by omega⟩ (by simp) (enters_of Tryz.func31 (by kernel_rfl) rfl) (enters_of Tryz.func33 (by kernel_rfl) rfl)
    (fun w1 hb1 => dkWriteR_any w1 g L d N _ _ _ n s hn hsl ((h.below hS).below hb1) hk hb (by omega) (hx.below hb1 hx.lt) (hy.below hb1 hy.lt) (hz.below hb1 hz.lt))
    (fun hh => by cases hh) (fun _ => rfl)
    (fun hr _ w1 hD hzz hs => (by
      rw [refused_write] at hr
      have ht : thereNo d.now n = 0 := by
        by_cases h0 : thereNo d.now n = 0
        · exact h0
        · rw [if_neg h0] at hr; exact absurd hr h0
      obtain ⟨f, hf⟩ := refused_some ht
      exact dkWriteA_any w1 g L (dless d) N _ _ _ f n s hn hf (by have := fat_in_all d N hb f; show (fat d.files f).data.length + s.length ≤ _; omega) hD (hk.armed _) (hx.stays g L hs (fun hm => by have := hlt _ hm; omega)) (hy.stays g L hs (fun hm => by have := hlt _ hm; omega)) (hz.stays g L hs (fun hm => by have := hlt _ hm; omega))))
  have HS := Lib.hid hS
  have HC := Lib.hid hC
  have hx0 := hx.cell 0
  clear h hk hb hS hx hy hz hC
  go_enter Tryz.func16, Tryz.ntmps16
  go_wp2_with (fail)
  refine HC.out.mono ?_
  rintro e w1 hp
  have HP := Lib.hid (DoPost.of HS.out (by simp) hp)
  obtain ⟨rfl, -⟩ := hp
  go_wp2
  go_ret
  exact HP.out
set_option maxHeartbeats 1000000 in
set_option maxRecDepth 100000 in
theorem dkFlush_any (w : World) (g : Nat) (L : Lay) (d : Dk) (N : Nat) (h : DiskIn w g L d N) (hk : DkOk d) (hb : DkB d N) (hN : N + 1 < 4294967296) :
    Calls Tryz.prog 44 #[.pointer (some ⟨g, 0, none⟩)] w (DoPost g L d .flush N w) := by
  have hS : Below w.heap.size w (w.alloc (.cells #[.pointer (some ⟨g, 0, none⟩)] 24)) := (Below.refl _ w).alloc (Nat.le_refl _) _
  have hx := Blk.new w [.pointer (some ⟨g, 0, none⟩)] 24
  have hlt := h.lt
  have hmf : ∀ (fn : Fn) (first cap : Array Value) (w : World), (Instr.makeFunc fn first cap).run Tryz.prog w = .ok (.func fn first cap) w := fun _ _ _ _ => rfl
  have hC := dkoperate_any _ g L d N .flush true 55 56 #[] #[.pointer (some ⟨w.heap.size, 0, none⟩)] [] (h.below hS) hk hb hN trivial (by simp) (enters_of Tryz.func55 (by kernel_rfl) rfl) (enters_of Tryz.func56 (by kernel_rfl) rfl)
    (fun w1 _ => dkFlushR_any w1 d)
    (fun _ => rfl) (fun hh => by cases hh)
    (fun _ _ w1 hD hzz hs => dkFlushA_any w1 g L (dless d) N _ hD (hx.stays g L hs (fun hm => by have := hlt _ hm; omega)))
  have HS := Lib.hid hS
  have HC := Lib.hid hC
  have hx0 := hx.cell 0
  clear h hk hb hS hx  hC
  go_enter Tryz.func44, Tryz.ntmps44
  go_wp2_with (fail)
  refine HC.out.mono ?_
  rintro e w1 hp
  have HP := Lib.hid (DoPost.of HS.out (by simp) hp)
  obtain ⟨rfl, -⟩ := hp
  go_wp2
  go_ret
  exact HP.out
end Go.Proofs.YtfgpigblnkanpaaGreat
