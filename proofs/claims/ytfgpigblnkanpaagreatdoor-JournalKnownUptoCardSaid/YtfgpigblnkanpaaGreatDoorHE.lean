/- The walk of what Flush does: the names are made safe. The walk of an operation of a disk: what is refused, what is done, what is struck. -/
import Derived.Test.YtfgpigblnkanpaaGreatDoorHD
import Derived.Deep.RegionWith
import Derived.Test.YtfgpigblnkanpaaGreatDoorHC
import Derived.Defers
namespace Go.Proofs.YtfgpigblnkanpaaGreatDoor
open Go.RowKit Go.Maps Go.Shelf

theorem flush_done {w w1 : World} {g : Nat} {L : Lay} {d : Dk} {N : Nat} (h : DiskIn w g L d N) (hm : MapIs w1 w.heap.size d.now L.F N ∧ Below w.heap.size w w1 ∧ w1.heap.size = w.heap.size + 1) :
    DiskIn ((w1.setCell ⟨g, 3, none⟩ (.map (some w.heap.size))).setCell ⟨g, 4, none⟩ (.slice none 0 0)) g { L with bs := w.heap.size, X := [], vs := [], vp := .slice none 0 0 } { d with safe := d.now, pend := [] } N ∧
      Stp (L.foot g ++ []) ({ L with bs := w.heap.size, X := [], vs := [], vp := .slice none 0 0 : Lay }.foot g) w ((w1.setCell ⟨g, 3, none⟩ (.map (some w.heap.size))).setCell ⟨g, 4, none⟩ (.slice none 0 0)) := by
  obtain ⟨hm, hb, hs⟩ := hm
  have ap := h.apart
  have hlt := h.lt
  have hgl := h.blk.lt
  have hoth : ∀ k, k ≠ g → ((w1.setCell ⟨g, 3, none⟩ (.map (some w.heap.size))).setCell ⟨g, 4, none⟩ (.slice none 0 0)).heap[k]? = w1.heap[k]? := fun k hk => by
    rw [Below.heap_setCell _ _ _ _ hk, Below.heap_setCell _ _ _ _ hk]
  have hold : ∀ k, k < w.heap.size → k ≠ g → ((w1.setCell ⟨g, 3, none⟩ (.map (some w.heap.size))).setCell ⟨g, 4, none⟩ (.slice none 0 0)).heap[k]? = w.heap[k]? := fun k hk hg => (hoth k hg).trans (hb.block k hk)
  have hsz : ((w1.setCell ⟨g, 3, none⟩ (.map (some w.heap.size))).setCell ⟨g, 4, none⟩ (.slice none 0 0)).heap.size = w.heap.size + 1 := by simp [World.setCell, hs]
  have hne : ∀ k ∈ L.foot g, k ≠ w.heap.size := fun k hk e => by have := hlt k hk; omega
  refine ⟨⟨?_, ?_, ?_, h.len, ?_, ?_, trivial, ?_, ?_, ?_⟩, ?_⟩
  · have hb1 := (h.blk.below hb hgl).set 3 (.map (some w.heap.size))
    exact hb1.set 4 (.slice none 0 0)
  · exact h.now.same (hold _ (hlt _ foot_bn) ap.gbn.symm)
  · exact (hm.same (hoth _ (by omega))).mono (Nat.le_refl _)
  · intro i hi
    have hm := getD_mem (F := L.F) (i := i) (by rw [h.len]; exact hi)
    exact (h.files i hi).same (hold _ (hlt _ (foot_F hm)) (fun e => ap.gF (e ▸ hm)))
  · exact World.ownsRow_nil _ _ _ _
  · intro x hx; cases hx
  · exact ownsRow_same h.fate fun k hk => hold k (hlt k (foot_vf hk)) (fun e => ap.gvf k hk e.symm)
  · exact ⟨ap.gbn, hne g foot_g, ap.gF, by simp, fun k hk => (by cases hk), ap.gvf, hne _ foot_bn, ap.nF, by simp, fun k hk => (by cases hk), ap.nvf, fun e => hne _ (foot_F e) rfl, by simp, fun k hk => (by cases hk), fun k hk e => hne k (foot_vf hk) e.symm, ap.FF, fun k hk => (by cases hk), fun k hk => (by cases hk), ap.Fvf, fun k hk => (by cases hk), fun k hk => (by cases hk)⟩
  · refine ⟨hb.os, hb.tape, hb.output, by omega, fun k hk hA => hold k hk (fun e => hA (e ▸ List.mem_append_left _ foot_g)), fun k hk => ?_⟩
    rcases foot_cases hk with rfl | rfl | rfl | hk | hk | hk | hk
    · exact Or.inl (List.mem_append_left _ foot_g)
    · exact Or.inl (List.mem_append_left _ foot_bn)
    · exact Or.inr (Nat.le_refl _)
    · exact Or.inl (List.mem_append_left _ (foot_F hk))
    · cases hk
    · cases hk
    · exact Or.inl (List.mem_append_left _ (foot_vf hk))

set_option maxHeartbeats 4000000 in
set_option maxRecDepth 100000 in
theorem dkFlushA_any (w : World) (g : Nat) (L : Lay) (d : Dk) (N x : Nat) (h : DiskIn w g L d N) (hx : Blk w x [.pointer (some ⟨g, 0, none⟩)] 29) :
    Calls Tryz.prog 66 #[.pointer (some ⟨x, 0, none⟩)] w (ActPost g L (dact d false .flush) N [] w) := by
  have x0 := hx.cell 0
  simp only [List.getElem?_cons_zero] at x0
  obtain ⟨c0, c1, c2, c3, c4, c5, c6⟩ := h.cells
  have hxl := hx.lt
  have hgl := h.blk.lt
  have hfree3 := h.blk.free 3
  have hfree4 := h.blk.free 4
  have hC := h.drew.now.clone.mono (R' := fun e w1 => e = .returned (.map (some w.heap.size)) ∧ w1.cell? ⟨x, 0, none⟩ = some (.pointer (some ⟨g, 0, none⟩)) ∧ w1.cell? ⟨g, 2, none⟩ = some (.map (some L.bn)) ∧ w1.cell? ⟨g, 3, none⟩ = some (.map (some L.bs)) ∧ w1.cell? ⟨g, 4, none⟩ = some L.vp ∧ w1.frozen? ⟨g, 3, none⟩ = false ∧ w1.frozen? ⟨g, 4, none⟩ = false ∧ Hid (MapIs w1 w.heap.size d.now L.F N ∧ Below w.heap.size w w1 ∧ w1.heap.size = w.heap.size + 1)) (fun e w1 ⟨he, hm, hb, hs⟩ =>
    ⟨he, (hb.cell (p := ⟨x, 0, none⟩) hxl).trans x0, (hb.cell (p := ⟨g, 2, none⟩) hgl).trans c2, (hb.cell (p := ⟨g, 3, none⟩) hgl).trans c3, (hb.cell (p := ⟨g, 4, none⟩) hgl).trans c4, (hb.frozen (p := ⟨g, 3, none⟩) hgl).trans hfree3, (hb.frozen (p := ⟨g, 4, none⟩) hgl).trans hfree4, hm, ⟨hb.os, hb.tape, hb.output, hb.size, hb.block⟩, hs⟩)
  have HH := Lib.hid h
  clear h hx
  go_enter Tryz.func66, Tryz.ntmps66
  go_region_with (go_at_call 67; refine hC.mono ?_; rintro e w1 ⟨rfl, k0, k2, k3, k4, f3, f4, hm⟩)
  all_goals (go_end0; exact ⟨rfl, { L with bs := w.heap.size, X := [], vs := [], vp := .slice none 0 0 }, (flush_done HH.out hm.out).1.mono (Nat.le_succ _), (flush_done HH.out hm.out).2⟩)
end Go.Proofs.YtfgpigblnkanpaaGreatDoor

namespace Go.Proofs.YtfgpigblnkanpaaGreatDoor
set_option linter.unusedVariables false
open Go.RowKit Go.Maps Go.Shelf

theorem IntsAt.of_row {w : World} {v : Value} {l : List Int} (h : w.ownsRow 0 3 1 v l.length (l.map (Value.int .i64))) : IntsAt w v l := by
  rcases h.2 with ⟨rfl, h0⟩ | ⟨g, cap, cur, rfl, _, hg, h1, h2, h3, h4⟩
  · rw [List.eq_nil_of_length_eq_zero h0]
    exact IntsAt.nil _ _ _
  · refine Or.inr ⟨g, 0, cap, rfl, h1, by unfold maxLen at h2; omega, fun k x hx => ?_⟩
    have := World.ownsRow.cellAt h k (by have := (List.getElem?_eq_some_iff.1 hx).1; omega)
    rw [Nat.zero_add, this, List.getElem?_map, hx]; rfl

theorem dkDefer_no (b10 b4 b8 : Nat) (u : FrameMode) (w : World) (h : w.cell? ⟨b10, 0, none⟩ = some (.bool false)) : CallsD Tryz.prog 116 #[.pointer (some ⟨b10, 0, none⟩), .pointer (some ⟨b4, 0, none⟩), .pointer (some ⟨b8, 0, none⟩)] u w fun e u' w' => u' = u ∧ (e = .returned (.tuple #[]) ∧ w = w') := by
  go_enter_d Tryz.func116, Tryz.ntmps116
  go_wp2
  go_end0
  exact ⟨rfl, rfl⟩
def DefPost (g b8 : Nat) (L : Lay) (d' : Dk) (N : Nat) (w : World) (e : Ending) (w' : World) : Prop :=
  e = .returned (.tuple #[]) ∧ w'.cell? ⟨b8, 0, none⟩ = some (.iface 102 (.int .i64 20)) ∧ ∃ L' : Lay, DiskIn w' g L' d' N ∧ Stp (L.foot g ++ [b8]) (L'.foot g) w w'
theorem def_done {g b8 : Nat} {L : Lay} {d' : Dk} {N : Nat} {w w1 : World} {v : Value} (h8 : Blk w b8 [v] 33) (h8f : b8 ∉ L.foot g) (h81 : Blk w1 b8 [v] 33) (h : ∃ L' : Lay, DiskIn w1 g L' d' N ∧ Stp (L.foot g) (L'.foot g) w w1) :
    DefPost g b8 L d' N w (.returned (.tuple #[])) (w1.setCell ⟨b8, 0, none⟩ (.iface 102 (.int .i64 20))) := by
  obtain ⟨L', h1, h2⟩ := h
  have hlt := h8.lt
  have hn : b8 ∉ L'.foot g := fun e => by
    rcases h2.inn b8 e with h3 | h3
    · exact h8f h3
    · omega
  refine ⟨rfl, (h81.set 0 _).cell 0, L', h1.setO _ hn _, ?_⟩
  have h3 := (h2.wide (C := L.foot g ++ [b8]) (fun k hk => List.mem_append_left _ hk))
  exact ⟨h3.os, h3.tape, h3.output, by simpa [World.setCell] using h3.size, fun k hk hA => (Below.heap_setCell _ _ _ _ (fun e => hA (by rw [e]; simp))).trans (h3.block k hk hA), h3.inn⟩
set_option maxHeartbeats 2000000 in
set_option maxRecDepth 100000 in
theorem dkDefer_yes (b10 b4 b8 g : Nat) (L : Lay) (d : Dk) (N : Nat) (v : Value) (u : FrameMode) (w : World) (h10 : w.cell? ⟨b10, 0, none⟩ = some (.bool true)) (h4 : w.cell? ⟨b4, 0, none⟩ = some (.pointer (some ⟨g, 0, none⟩))) (h8 : Blk w b8 [v] 33) (h8f : b8 ∉ L.foot g) (h : DiskIn w g L d N) (hk : DkOk d) (hb : DkB d N) (hN : N < 4294967296) :
    CallsD Tryz.prog 116 #[.pointer (some ⟨b10, 0, none⟩), .pointer (some ⟨b4, 0, none⟩), .pointer (some ⟨b8, 0, none⟩)] u w fun e u' w' => u' = u ∧ DefPost g b8 L (dfail d d.fate) N w e w' := by
  obtain ⟨c0, c1, c2, c3, c4, c5, c6⟩ := h.cells
  have ap := h.apart
  have hC := dkfail_any w.drew g L d N L.vf d.fate h.drew hk hb hN (IntsAt.of_row h.drew.fate) (fun j hj => ⟨(h.fate.lt j (usesOf_own hj)).2, fun e => ap.svf j (usesOf_own hj) e.symm, ap.Fvf j (usesOf_own hj)⟩)
  have hC2 := hC.mono (R' := fun e w1 => e = .returned (.tuple #[]) ∧ w1.cell? ⟨b8, 0, none⟩ = some v ∧ w1.frozen? ⟨b8, 0, none⟩ = false ∧ Hid (Blk w1 b8 [v] 33 ∧ ∃ L' : Lay, DiskIn w1 g L' (dfail d d.fate) N ∧ Stp (L.foot g) (L'.foot g) w w1)) (fun e w1 ⟨he, L', h1, h2⟩ => by
    have h8' : Blk w1 b8 [v] 33 := h8.same (h2.block b8 h8.lt h8f)
    exact ⟨he, h8'.cell 0, h8'.free 0, h8', L', h1, ⟨h2.os, h2.tape, h2.output, h2.size, h2.block, h2.inn⟩⟩)
  have H8F := Lib.hid h8f
  have H8 := Lib.hid h8
  have HD := Lib.hid h
  clear hC ap h hk hb h8 h8f
  go_enter_d Tryz.func116, Tryz.ntmps116
  go_wp2
  go_region_with (go_at_call 68; refine hC2.mono ?_; rintro e w1 ⟨rfl, k8, f8, hh⟩)
  all_goals go_wp2
  all_goals (go_end0; exact def_done H8.out H8F.out hh.out.1 hh.out.2)

def OpPost (g : Nat) (L : Lay) (d' : Dk) (no N : Nat) (Y : List Nat) (w : World) (e : Ending) (w' : World) : Prop :=
  e = .returned (errV no) ∧ ∃ L' : Lay, DiskIn w' g L' d' (N + 1) ∧ Stp (L.foot g ++ Y) (L'.foot g) w w'

set_option maxHeartbeats 2000000 in
set_option maxRecDepth 100000 in
theorem dkoperate_off (w : World) (g : Nat) (L : Lay) (d : Dk) (N : Nat) (b : Bool) (v u : Value) (h : DiskIn w g L d N) (hoff : d.off = true) (Y : List Nat) :
    Calls Tryz.prog 61 #[.pointer (some ⟨g, 0, none⟩), v, .bool b, u] w (OpPost g L d 20 N Y w) := by
  obtain ⟨c0, c1, c2, c3, c4, c5, c6⟩ := h.cells
  rw [hoff] at c0
  have hgl := h.blk.lt
  have HD := Lib.hid h
  clear h hoff
  have hS : Below w.heap.size w ((w.alloc (.cells #[.pointer (some ⟨g, 0, none⟩)] 29)).alloc (.cells #[.iface 102 (.int .i64 20)] 33)) := ((Below.refl _ w).alloc (Nat.le_refl _) _).alloc (by simp) _
  have hc8 : ((w.alloc (.cells #[.pointer (some ⟨g, 0, none⟩)] 29)).alloc (.cells #[.iface 102 (.int .i64 20)] 33)).cell? ⟨w.heap.size + 1, 0, none⟩ = some (.iface 102 (.int .i64 20)) := by
    have := Blk.new (w.alloc (.cells #[.pointer (some ⟨g, 0, none⟩)] 29)) [.iface 102 (.int .i64 20)] 33
    rw [World.size_alloc] at this
    exact this.cell 0
  have HS := Lib.hid hS
  have HC8 := Lib.hid hc8
  clear hS hc8
  go_enter_defers Tryz.func61, Tryz.ntmps61
  go_wp2
  refine ⟨.iface 102 (.int .i64 20), ?_, rfl, L, (HD.out.below HS.out).mono (Nat.le_succ _), Stp.of_below HS.out (fun k hk => Or.inl (List.mem_append_left _ hk))⟩
  have := HC8.out
  simp [results, Tryz.results61, go_sem, this]

theorem two_new (w : World) (u v : Value) (s t : TypeId) : Below w.heap.size w ((w.alloc (.cells #[u] s)).alloc (.cells #[v] t)) ∧ Blk ((w.alloc (.cells #[u] s)).alloc (.cells #[v] t)) w.heap.size [u] s ∧ Blk ((w.alloc (.cells #[u] s)).alloc (.cells #[v] t)) (w.heap.size + 1) [v] t ∧ ((w.alloc (.cells #[u] s)).alloc (.cells #[v] t)).heap.size = w.heap.size + 2 := by
  have := Blk.new (w.alloc (.cells #[u] s)) [v] t
  rw [World.size_alloc] at this
  exact ⟨((Below.refl _ w).alloc (Nat.le_refl _) _).alloc (by simp) _, (Blk.new w [u] s).alloc _, this, by simp⟩

set_option maxHeartbeats 2000000 in
set_option maxRecDepth 100000 in
theorem dkoperate_ref (w : World) (g : Nat) (L : Lay) (d : Dk) (N : Nat) (o : Od) (b : Bool) (fr : FuncId) (cr : Array Value) (u : Value) (h : DiskIn w g L d N) (hoff : d.off = false) (Y : List Nat) (efr : Enters Tryz.prog fr)
    (hr : ∀ w1, Below w.heap.size w w1 → Calls Tryz.prog fr cr w1 (RefPost (drefused d o) w1)) (hno : drefused d o ≠ 0) :
    Calls Tryz.prog 61 #[.pointer (some ⟨g, 0, none⟩), .func (.func fr) #[] cr, .bool b, u] w (OpPost g L d (drefused d o) N Y w) := by
  obtain ⟨c0, c1, c2, c3, c4, c5, c6⟩ := h.cells
  rw [hoff] at c0
  have hgl := h.blk.lt
  have HD := Lib.hid h
  obtain ⟨hS, hb4, hb8, hsz⟩ := two_new w (.pointer (some ⟨g, 0, none⟩)) .nilIface 29 33
  have hR := hr _ hS
  have hev := errV_no hno
  generalize drefused d o = no at *
  have HS := Lib.hid hS
  have HB8 := Lib.hid hb8
  have HR := Lib.hid hR
  have HEV := Lib.hid hev
  clear hS hb8 hb4 h hoff hr hR hev hno
  have efr' : ∀ (args : Array Value) (w : World), (callFunc fr args).run Tryz.prog w = .ok (.enter fr args) w := efr
  clear efr
  go_enter_defers Tryz.func61, Tryz.ntmps61
  go_wp2_with (fail)
  have hR2 := HR.out
  unfold RefPost at hR2
  rw [HEV.out] at hR2
  have HR2 := Lib.hid hR2
  clear hR2
  refine HR2.out.mono ?_
  rintro e w1 ⟨rfl, hb1⟩
  have hb8 : Blk w1 (w.heap.size + 1) [.nilIface] 33 := HB8.out.below hb1 (by rw [hsz]; omega)
  have k8 := hb8.cell 0
  have f8 := hb8.free 0
  simp only [List.getElem?_cons_zero] at k8
  have hS1 : Below w.heap.size w w1 := HS.out.trans (hb1.mono (by rw [hsz]; omega))
  have HS1 := Lib.hid (Below.setCell hS1 (p := ⟨w.heap.size + 1, 0, none⟩) (by show w.heap.size ≤ w.heap.size + 1; omega) (.iface 102 (.int .i64 no)))
  have HC8 := Lib.hid ((hb8.set 0 (.iface 102 (.int .i64 no))).cell 0)
  clear hb1 hb8 hS1
  go_wp2
  refine ⟨.iface 102 (.int .i64 no), ?_, by rw [HEV.out], L, (HD.out.below HS1.out).mono (Nat.le_succ _), Stp.of_below HS1.out (fun k hk => Or.inl (List.mem_append_left _ hk))⟩
  have := HC8.out
  simp only [List.set_cons_zero, List.getElem?_cons_zero] at this
  simp [results, Tryz.results61, go_sem, this]

/-- A block outside of what an act may turn. -/
theorem Stp.blk {A B : List Nat} {w w' : World} (h : Stp A B w w') {b : Nat} {xs : List Value} {t : TypeId} (hb : Blk w b xs t) (hA : b ∉ A) : Blk w' b xs t := hb.same (h.block b hb.lt hA)
/-- d with one operation less to the stroke. -/
def dless (d : Dk) : Dk := { d with armed := d.armed - 1 }
set_option maxHeartbeats 4000000 in
set_option maxRecDepth 100000 in
theorem dkoperate_act (w : World) (g : Nat) (L : Lay) (d : Dk) (N : Nat) (o : Od) (b : Bool) (fr fa : FuncId) (cr ca : Array Value) (h : DiskIn w g L d N) (hoff : d.off = false) (Y : List Nat) (hY : ∀ y ∈ Y, y < w.heap.size) (efr : Enters Tryz.prog fr) (efa : Enters Tryz.prog fa)
    (hr : ∀ w1, Below w.heap.size w w1 → Calls Tryz.prog fr cr w1 (RefPost (drefused d o) w1)) (hno : drefused d o = 0) (harm : d.armed ≠ 1) (ham : d.armed ≤ 9223372036854775807)
    (ha : ∀ w1, DiskIn w1 g L (dless d) N → w.heap.size ≤ w1.heap.size → (∀ k, k < w.heap.size → k ∉ L.foot g → w1.heap[k]? = w.heap[k]?) → Calls Tryz.prog fa ca w1 (ActPost g L (dact (dless d) false o) N Y w1)) :
    Calls Tryz.prog 61 #[.pointer (some ⟨g, 0, none⟩), .func (.func fr) #[] cr, .bool b, .func (.func fa) #[] ca] w (OpPost g L (dact (dless d) false o) 0 N Y w) := by
  obtain ⟨c0, c1, c2, c3, c4, c5, c6⟩ := h.cells
  rw [hoff] at c0
  have hgl := h.blk.lt
  have HD := Lib.hid h
  obtain ⟨hS, hb4, hb8, hsz⟩ := two_new w (.pointer (some ⟨g, 0, none⟩)) .nilIface 29 33
  have hR := hr _ hS
  rw [hno] at hR
  unfold RefPost at hR
  rw [errV_0] at hR
  have HS := Lib.hid hS
  have HB8 := Lib.hid hb8
  have HB4 := Lib.hid hb4
  have HR := Lib.hid hR
  have HA := Lib.hid ha
  have HY := Lib.hid hY
  clear hS hb8 hb4 h hoff hr hR hno ha hY
  have hmf : ∀ (fn : Fn) (first cap : Array Value) (w : World), (Instr.makeFunc fn first cap).run Tryz.prog w = .ok (.func fn first cap) w := fun _ _ _ _ => rfl
  have efr' : ∀ (args : Array Value) (w : World), (callFunc fr args).run Tryz.prog w = .ok (.enter fr args) w := efr
  have efa' : ∀ (args : Array Value) (w : World), (callFunc fa args).run Tryz.prog w = .ok (.enter fa args) w := efa
  clear efr efa
  go_enter_defers Tryz.func61, Tryz.ntmps61
  go_wp2_with (fail)
  refine HR.out.mono ?_
  rintro e w1 ⟨rfl, hb1⟩
  have hb8 : Blk w1 (w.heap.size + 1) [.nilIface] 33 := HB8.out.below hb1 (by rw [hsz]; omega)
  have hb4 : Blk w1 w.heap.size [.pointer (some ⟨g, 0, none⟩)] 29 := HB4.out.below hb1 (by rw [hsz]; omega)
  have hS1 : Below w.heap.size w w1 := HS.out.trans (hb1.mono (by rw [hsz]; omega))
  have hD1 := HD.out.below hS1
  obtain ⟨e0, e1, e2, e3, e4, e5, e6⟩ := hD1.cells
  have k4 := hb4.cell 0
  simp only [List.getElem?_cons_zero] at k4
  have hz1 : w.heap.size + 2 ≤ w1.heap.size := by have := hb1.size; omega
  have hgl1 : g < w1.heap.size := hD1.blk.lt
  have hne : ((d.armed : Int) == 1) = false := by simp; omega
  have f5 := hD1.blk.free 5
  have HS1 := Lib.hid hS1
  have HD1 := Lib.hid hD1
  have HB81 := Lib.hid hb8
  have HB41 := Lib.hid hb4
  clear hb1 hb8 hb4 hS1 hD1
  go_wp2_with (fail)
  have hb2 : Below w1.heap.size w1 (w1.alloc (.cells #[.bool false] 4)) := (Below.refl _ w1).alloc (Nat.le_refl _) _
  have hb10 := Blk.new w1 [.bool false] 4
  have hsz2 : (w1.alloc (.cells #[.bool false] 4)).heap.size = w1.heap.size + 1 := by simp
  generalize w1.alloc (.cells #[.bool false] 4) = w2 at *
  have hD2 := HD1.out.below hb2
  obtain ⟨p0, p1, p2, p3, p4, p5, p6⟩ := hD2.cells
  have q4 := (HB41.out.below hb2 (by omega)).cell 0
  have q10 := hb10.cell 0
  have g5 := hD2.blk.free 5
  simp only [List.getElem?_cons_zero] at q4 q10
  have HB2 := Lib.hid hb2
  have HD2 := Lib.hid hD2
  have HB10 := Lib.hid hb10
  clear hb2 hb10 hD2 e0 e1 e2 e3 e4 e5 e6 k4 f5
  go_region
  all_goals go_wp2_with (fail)
  have hD3 : DiskIn (w2.setCell ⟨g, 5, none⟩ (.int .i64 (max 0 ((d.armed : Int) - 1)))).drew g L (dless d) N := by
    refine DiskIn.drew (HD2.out.setHead rfl rfl rfl rfl rfl ?_ (by simp [World.setCell]) (fun k _ hk => Below.heap_setCell _ _ _ _ hk))
    have e1 : max 0 ((d.armed : Int) - 1) = ((d.armed - 1 : Nat) : Int) := by omega
    rw [e1]
    exact HD2.out.blk.set 5 (.int .i64 ((d.armed - 1 : Nat) : Int))
  have hz3 : (w2.setCell ⟨g, 5, none⟩ (.int .i64 (max 0 ((d.armed : Int) - 1)))).drew.heap.size = w2.heap.size := by simp [World.setCell]
  have hk3 : ∀ k, k ≠ g → (w2.setCell ⟨g, 5, none⟩ (.int .i64 (max 0 ((d.armed : Int) - 1)))).drew.heap[k]? = w2.heap[k]? := fun k hk => Below.heap_setCell _ _ _ _ hk
  have ho3 : (w2.setCell ⟨g, 5, none⟩ (.int .i64 (max 0 ((d.armed : Int) - 1)))).drew.os = w2.os := rfl
  have ht3 : (w2.setCell ⟨g, 5, none⟩ (.int .i64 (max 0 ((d.armed : Int) - 1)))).drew.tape = w2.tape := rfl
  have hu3 : (w2.setCell ⟨g, 5, none⟩ (.int .i64 (max 0 ((d.armed : Int) - 1)))).drew.output = w2.output := rfl
  generalize (w2.setCell ⟨g, 5, none⟩ (.int .i64 (max 0 ((d.armed : Int) - 1)))).drew = w3 at *
  have hS2 : Below w.heap.size w w2 := HS1.out.trans (HB2.out.mono (by omega))
  have hT3 : Stp (L.foot g) (L.foot g) w w3 := ⟨ho3.trans hS2.os, ht3.trans hS2.tape, hu3.trans hS2.output, by rw [hz3]; exact hS2.size, fun k hk hA => (hk3 k (fun e => hA (e ▸ foot_g))).trans (hS2.block k hk), fun k hk => Or.inl hk⟩
  have hY3 : ∀ b, w.heap.size ≤ b → b ∉ L.foot g ++ Y := fun b hb hm => by
    rcases List.mem_append.1 hm with hm | hm
    · have := HD.out.lt b hm; omega
    · have := HY.out b hm; omega
  have n8 : Blk w3 (w.heap.size + 1) [.nilIface] 33 := (HB81.out.below HB2.out (by omega)).same (hk3 _ (by have := HD.out.blk.lt; omega))
  have n10 : Blk w3 w1.heap.size [.bool false] 4 := HB10.out.same (hk3 _ (by omega))
  have hA3 := HA.out w3 hD3 hT3.size (fun k hk hn => hT3.block k hk hn)
  have HA3 := Lib.hid hA3
  have HT3 := Lib.hid hT3
  have HN8 := Lib.hid n8
  have HN10 := Lib.hid n10
  have HY3 := Lib.hid hY3
  clear hD3 hk3 ho3 ht3 hu3 hS2 hT3 n8 n10 hA3 hY3 p0 p1 p2 p3 p4 p5 p6 q4 q10 g5
  refine HA3.out.mono ?_
  rintro e w4 ⟨rfl, L', hL, hT⟩
  have m8 := hT.blk HN8.out (HY3.out _ (by omega))
  have m10 := hT.blk HN10.out (HY3.out _ (by omega))
  have k8 := m8.cell 0
  have f8 := m8.free 0
  simp only [List.getElem?_cons_zero] at k8
  have HL := Lib.hid hL
  have HT := Lib.hid hT
  have HM8 := Lib.hid m8
  have HM10 := Lib.hid m10
  clear hL hT m8 m10
  go_wp2_with (fail)
  have m10' : (w4.setCell ⟨w.heap.size + 1, 0, none⟩ .nilIface).cell? ⟨w1.heap.size, 0, none⟩ = some (.bool false) := (HM10.out.setO _ (by show w.heap.size + 1 ≠ w1.heap.size; omega) _).cell 0
  have m8' : (w4.setCell ⟨w.heap.size + 1, 0, none⟩ .nilIface).cell? ⟨w.heap.size + 1, 0, none⟩ = some .nilIface := (HM8.out.set 0 _).cell 0
  refine leaves_cons (f := 116) (args := #[.pointer (some ⟨w1.heap.size, 0, none⟩), .pointer (some ⟨w.heap.size, 0, none⟩), .pointer (some ⟨w.heap.size + 1, 0, none⟩)]) (by simp) (by simp [go_sem]) ?_
  refine (dkDefer_no _ _ _ .returning _ m10').mono ?_
  rintro e u' w6 ⟨rfl, rfl, rfl⟩
  have hn8 : w.heap.size + 1 ∉ L'.foot g := fun hm => by
    rcases HT.out.inn _ hm with h1 | h1
    · exact HY3.out _ (by omega) h1
    · have := HN8.out.lt; omega
  have hfin : Stp (L.foot g ++ Y) (L'.foot g) w (w4.setCell ⟨w.heap.size + 1, 0, none⟩ .nilIface) := by
    have h1 := (HT3.out.less (C := L.foot g) (fun k hk => hk)).wide (C := L.foot g ++ Y) (fun k hk => List.mem_append_left _ hk)
    have h2 : Stp (L.foot g ++ Y) (L.foot g ++ Y) w w3 := ⟨HT3.out.os, HT3.out.tape, HT3.out.output, HT3.out.size, fun k hk hA => HT3.out.block k hk (fun e => hA (List.mem_append_left _ e)), fun k hk => Or.inl hk⟩
    have h3 := h2.trans HT.out
    exact ⟨h3.os, h3.tape, h3.output, by simpa [World.setCell] using h3.size, fun k hk hA => (Below.heap_setCell _ _ _ _ (by show k ≠ w.heap.size + 1; omega)).trans (h3.block k hk hA), h3.inn⟩
  exact ⟨.nilIface, by simp [results, Tryz.results61, go_sem, m8'], rfl, L', HL.out.setO _ hn8 _, hfin⟩

set_option maxHeartbeats 4000000 in
set_option maxRecDepth 100000 in
theorem dkoperate_hit (w : World) (g : Nat) (L : Lay) (d : Dk) (N : Nat) (o : Od) (fr fa : FuncId) (cr ca : Array Value) (h : DiskIn w g L d N) (hoff : d.off = false) (Y : List Nat) (hY : ∀ y ∈ Y, y < w.heap.size) (efr : Enters Tryz.prog fr) (efa : Enters Tryz.prog fa)
    (hr : ∀ w1, Below w.heap.size w w1 → Calls Tryz.prog fr cr w1 (RefPost (drefused d o) w1)) (hno : drefused d o = 0) (harm : d.armed = 1) (hN : N + 1 < 4294967296) (hk' : DkOk (dact (dless d) false o)) (hb' : DkB (dact (dless d) false o) (N + 1))
    (ha : ∀ w1, DiskIn w1 g L (dless d) N → w.heap.size ≤ w1.heap.size → (∀ k, k < w.heap.size → k ∉ L.foot g → w1.heap[k]? = w.heap[k]?) → Calls Tryz.prog fa ca w1 (ActPost g L (dact (dless d) false o) N Y w1)) :
    Calls Tryz.prog 61 #[.pointer (some ⟨g, 0, none⟩),   .func (.func fr) #[] cr, .bool false, .func (.func fa) #[] ca] w (OpPost g L (dfail (dact (dless d) false o) d.fate) 20 N Y w) := by
  obtain ⟨c0, c1, c2, c3, c4, c5, c6⟩ := h.cells
  rw [hoff] at c0
  have hgl := h.blk.lt
  have HD := Lib.hid h
  obtain ⟨hS, hb4, hb8, hsz⟩ := two_new w (.pointer (some ⟨g, 0, none⟩)) .nilIface 29 33
  have hR := hr _ hS
  rw [hno] at hR
  unfold RefPost at hR
  rw [errV_0] at hR
  have HS := Lib.hid hS
  have HB8 := Lib.hid hb8
  have HB4 := Lib.hid hb4
  have HR := Lib.hid hR
  have HA := Lib.hid ha
  have HY := Lib.hid hY
  have HK' := Lib.hid hk'
  have HB' := Lib.hid hb'
  have HARM := Lib.hid harm
  have ham : d.armed ≤ 1 := by omega
  clear hS hb8 hb4 h hoff hr hR hno ha hY hk' hb'
  have hmf : ∀ (fn : Fn) (first cap : Array Value) (w : World), (Instr.makeFunc fn first cap).run Tryz.prog w = .ok (.func fn first cap) w := fun _ _ _ _ => rfl
  have efr' : ∀ (args : Array Value) (w : World), (callFunc fr args).run Tryz.prog w = .ok (.enter fr args) w := efr
  have efa' : ∀ (args : Array Value) (w : World), (callFunc fa args).run Tryz.prog w = .ok (.enter fa args) w := efa
  clear efr efa
  go_enter_defers Tryz.func61, Tryz.ntmps61
  go_wp2_with (fail)
  refine HR.out.mono ?_
  rintro e w1 ⟨rfl, hb1⟩
  have hb8 : Blk w1 (w.heap.size + 1) [.nilIface] 33 := HB8.out.below hb1 (by rw [hsz]; omega)
  have hb4 : Blk w1 w.heap.size [.pointer (some ⟨g, 0, none⟩)] 29 := HB4.out.below hb1 (by rw [hsz]; omega)
  have hS1 : Below w.heap.size w w1 := HS.out.trans (hb1.mono (by rw [hsz]; omega))
  have hD1 := HD.out.below hS1
  obtain ⟨e0, e1, e2, e3, e4, e5, e6⟩ := hD1.cells
  have k4 := hb4.cell 0
  simp only [List.getElem?_cons_zero] at k4
  have hz1 : w.heap.size + 2 ≤ w1.heap.size := by have := hb1.size; omega
  have hgl1 : g < w1.heap.size := hD1.blk.lt
  have hne : ((d.armed : Int) == 1) = true := by rw [harm]; rfl
  have f5 := hD1.blk.free 5
  have HS1 := Lib.hid hS1
  have HD1 := Lib.hid hD1
  have HB81 := Lib.hid hb8
  have HB41 := Lib.hid hb4
  clear hb1 hb8 hb4 hS1 hD1 harm
  go_wp2_with (fail)
  have hb2 : Below w1.heap.size w1 (w1.alloc (.cells #[.bool true] 4)) := (Below.refl _ w1).alloc (Nat.le_refl _) _
  have hb10 := Blk.new w1 [.bool true] 4
  have hsz2 : (w1.alloc (.cells #[.bool true] 4)).heap.size = w1.heap.size + 1 := by simp
  generalize w1.alloc (.cells #[.bool true] 4) = w2 at *
  have hD2 := HD1.out.below hb2
  obtain ⟨p0, p1, p2, p3, p4, p5, p6⟩ := hD2.cells
  have q4 := (HB41.out.below hb2 (by omega)).cell 0
  have q10 := hb10.cell 0
  have g5 := hD2.blk.free 5
  simp only [List.getElem?_cons_zero] at q4 q10
  have HB2 := Lib.hid hb2
  have HD2 := Lib.hid hD2
  have HB10 := Lib.hid hb10
  clear hb2 hb10 hD2 e0 e1 e2 e3 e4 e5 e6 k4 f5
  go_region
  all_goals go_wp2_with (fail)
  have hD3 : DiskIn (w2.setCell ⟨g, 5, none⟩ (.int .i64 (max 0 ((d.armed : Int) - 1)))).drew g L (dless d) N := by
    refine DiskIn.drew (HD2.out.setHead rfl rfl rfl rfl rfl ?_ (by simp [World.setCell]) (fun k _ hk => Below.heap_setCell _ _ _ _ hk))
    have e1 : max 0 ((d.armed : Int) - 1) = ((d.armed - 1 : Nat) : Int) := by have := HARM.out; omega
    rw [e1]
    exact HD2.out.blk.set 5 (.int .i64 ((d.armed - 1 : Nat) : Int))
  have hz3 : (w2.setCell ⟨g, 5, none⟩ (.int .i64 (max 0 ((d.armed : Int) - 1)))).drew.heap.size = w2.heap.size := by simp [World.setCell]
  have hk3 : ∀ k, k ≠ g → (w2.setCell ⟨g, 5, none⟩ (.int .i64 (max 0 ((d.armed : Int) - 1)))).drew.heap[k]? = w2.heap[k]? := fun k hk => Below.heap_setCell _ _ _ _ hk
  have ho3 : (w2.setCell ⟨g, 5, none⟩ (.int .i64 (max 0 ((d.armed : Int) - 1)))).drew.os = w2.os := rfl
  have ht3 : (w2.setCell ⟨g, 5, none⟩ (.int .i64 (max 0 ((d.armed : Int) - 1)))).drew.tape = w2.tape := rfl
  have hu3 : (w2.setCell ⟨g, 5, none⟩ (.int .i64 (max 0 ((d.armed : Int) - 1)))).drew.output = w2.output := rfl
  generalize (w2.setCell ⟨g, 5, none⟩ (.int .i64 (max 0 ((d.armed : Int) - 1)))).drew = w3 at *
  have hS2 : Below w.heap.size w w2 := HS1.out.trans (HB2.out.mono (by omega))
  have hT3 : Stp (L.foot g) (L.foot g) w w3 := ⟨ho3.trans hS2.os, ht3.trans hS2.tape, hu3.trans hS2.output, by rw [hz3]; exact hS2.size, fun k hk hA => (hk3 k (fun e => hA (e ▸ foot_g))).trans (hS2.block k hk), fun k hk => Or.inl hk⟩
  have hY3 : ∀ b, w.heap.size ≤ b → b ∉ L.foot g ++ Y := fun b hb hm => by
    rcases List.mem_append.1 hm with hm | hm
    · have := HD.out.lt b hm; omega
    · have := HY.out b hm; omega
  have n8 : Blk w3 (w.heap.size + 1) [.nilIface] 33 := (HB81.out.below HB2.out (by omega)).same (hk3 _ (by have := HD.out.blk.lt; omega))
  have n4 : Blk w3 w.heap.size [.pointer (some ⟨g, 0, none⟩)] 29 := (HB41.out.below HB2.out (by omega)).same (hk3 _ (by have := HD.out.blk.lt; omega))
  have n10 : Blk w3 w1.heap.size [.bool true] 4 := HB10.out.same (hk3 _ (by omega))
  have hA3 := HA.out w3 hD3 hT3.size (fun k hk hn => hT3.block k hk hn)
  have HA3 := Lib.hid hA3
  have HT3 := Lib.hid hT3
  have HN8 := Lib.hid n8
  have HN10 := Lib.hid n10
  have HN4 := Lib.hid n4
  have HY3 := Lib.hid hY3
  clear hD3 hk3 ho3 ht3 hu3 hS2 hT3 n8 n10 n4 hA3 hY3 p0 p1 p2 p3 p4 p5 p6 q4 q10 g5
  refine HA3.out.mono ?_
  rintro e w4 ⟨rfl, L', hL, hT⟩
  have m8 := hT.blk HN8.out (HY3.out _ (by omega))
  have m4 := hT.blk HN4.out (HY3.out _ (Nat.le_refl _))
  have m10 := hT.blk HN10.out (HY3.out _ (by omega))
  have k8 := m8.cell 0
  have f8 := m8.free 0
  simp only [List.getElem?_cons_zero] at k8
  have HL := Lib.hid hL
  have HT := Lib.hid hT
  have HM8 := Lib.hid m8
  have HM10 := Lib.hid m10
  have HM4 := Lib.hid m4
  clear hL hT m8 m10 m4
  go_wp2_with (fail)
  have m10' : (w4.setCell ⟨w.heap.size + 1, 0, none⟩ .nilIface).cell? ⟨w1.heap.size, 0, none⟩ = some (.bool true) := (HM10.out.setO _ (by show w.heap.size + 1 ≠ w1.heap.size; omega) _).cell 0
  have m4' : (w4.setCell ⟨w.heap.size + 1, 0, none⟩ .nilIface).cell? ⟨w.heap.size, 0, none⟩ = some (.pointer (some ⟨g, 0, none⟩)) := (HM4.out.setO _ (by show w.heap.size + 1 ≠ w.heap.size; omega) _).cell 0
  have m8' : Blk (w4.setCell ⟨w.heap.size + 1, 0, none⟩ .nilIface) (w.heap.size + 1) [.nilIface] 33 := HM8.out.set 0 _
  have hn8 : w.heap.size + 1 ∉ L'.foot g := fun hm => by
    rcases HT.out.inn _ hm with h1 | h1
    · exact HY3.out _ (by omega) h1
    · have := HN8.out.lt; omega
  have hfin : Stp (L.foot g ++ Y) (L'.foot g) w (w4.setCell ⟨w.heap.size + 1, 0, none⟩ .nilIface) := by
    have h2 : Stp (L.foot g ++ Y) (L.foot g ++ Y) w w3 := ⟨HT3.out.os, HT3.out.tape, HT3.out.output, HT3.out.size, fun k hk hA => HT3.out.block k hk (fun e => hA (List.mem_append_left _ e)), fun k hk => Or.inl hk⟩
    have h3 := h2.trans HT.out
    exact ⟨h3.os, h3.tape, h3.output, by simpa [World.setCell] using h3.size, fun k hk hA => (Below.heap_setCell _ _ _ _ (by show k ≠ w.heap.size + 1; omega)).trans (h3.block k hk hA), h3.inn⟩
  have hD5 := HL.out.setO ⟨w.heap.size + 1, 0, none⟩ hn8 .nilIface
  refine leaves_cons (f := 116) (args := #[.pointer (some ⟨w1.heap.size, 0, none⟩), .pointer (some ⟨w.heap.size, 0, none⟩), .pointer (some ⟨w.heap.size + 1, 0, none⟩)]) (by simp) (by simp [go_sem]) ?_
  refine (dkDefer_yes _ _ _ g L' _ (N + 1) _ .returning _ m10' m4' m8' hn8 hD5 HK'.out HB'.out hN).mono ?_
  rintro e u' w6 ⟨rfl, rfl, k86, L6, hL6, hT6⟩
  have hfate : (dact (dless d) false o).fate = d.fate := by cases o <;> rfl
  rw [hfate] at hL6
  refine ⟨.iface 102 (.int .i64 20), by simp [results, Tryz.results61, go_sem, k86], rfl, L6, hL6, ?_⟩
  exact ⟨hT6.os.trans hfin.os, hT6.tape.trans hfin.tape, hT6.output.trans hfin.output, Nat.le_trans hfin.size hT6.size, fun k hk hA => (hT6.block k (Nat.lt_of_lt_of_le hk hfin.size) (fun hm => by
      rcases List.mem_append.1 hm with hm | hm
      · rcases hfin.inn k hm with h1 | h1
        · exact hA h1
        · omega
      · have e1 : k = w.heap.size + 1 := by simpa using hm
        omega)).trans (hfin.block k hk hA), fun k hk => by
      rcases hT6.inn k hk with hm | hm
      · rcases List.mem_append.1 hm with hm | hm
        · exact hfin.inn k hm
        · have e1 : k = w.heap.size + 1 := by simpa using hm
          exact Or.inr (by omega)
      · exact Or.inr (Nat.le_trans hfin.size hm)⟩

set_option maxHeartbeats 4000000 in
set_option maxRecDepth 100000 in
theorem dkoperate_late (w : World) (g : Nat) (L : Lay) (d : Dk) (N : Nat) (o : Od) (fr : FuncId) (cr : Array Value) (u : Value) (h : DiskIn w g L d N) (hoff : d.off = false) (Y : List Nat) (hY : ∀ y ∈ Y, y < w.heap.size) (efr : Enters Tryz.prog fr)
    (hr : ∀ w1, Below w.heap.size w w1 → Calls Tryz.prog fr cr w1 (RefPost (drefused d o) w1)) (hno : drefused d o = 0) (harm : d.armed = 1) (hN : N + 1 < 4294967296) (hk' : DkOk (dless d)) (hb' : DkB (dless d) N) :
    Calls Tryz.prog 61 #[.pointer (some ⟨g, 0, none⟩),  .func (.func fr) #[] cr, .bool true, u] w (OpPost g L (dfail (dless d) d.fate) 20 N Y w) := by
  obtain ⟨c0, c1, c2, c3, c4, c5, c6⟩ := h.cells
  rw [hoff] at c0
  have hgl := h.blk.lt
  have HD := Lib.hid h
  obtain ⟨hS, hb4, hb8, hsz⟩ := two_new w (.pointer (some ⟨g, 0, none⟩)) .nilIface 29 33
  have hR := hr _ hS
  rw [hno] at hR
  unfold RefPost at hR
  rw [errV_0] at hR
  have HS := Lib.hid hS
  have HB8 := Lib.hid hb8
  have HB4 := Lib.hid hb4
  have HR := Lib.hid hR
  have HY := Lib.hid hY
  have HK' := Lib.hid hk'
  have HB' := Lib.hid hb'
  have HARM := Lib.hid harm
  have ham : d.armed ≤ 1 := by omega
  clear hS hb8 hb4 h hoff hr hR hno hY hk' hb'
  have hmf : ∀ (fn : Fn) (first cap : Array Value) (w : World), (Instr.makeFunc fn first cap).run Tryz.prog w = .ok (.func fn first cap) w := fun _ _ _ _ => rfl
  have efr' : ∀ (args : Array Value) (w : World), (callFunc fr args).run Tryz.prog w = .ok (.enter fr args) w := efr
  clear efr
  go_enter_defers Tryz.func61, Tryz.ntmps61
  go_wp2_with (fail)
  refine HR.out.mono ?_
  rintro e w1 ⟨rfl, hb1⟩
  have hb8 : Blk w1 (w.heap.size + 1) [.nilIface] 33 := HB8.out.below hb1 (by rw [hsz]; omega)
  have hb4 : Blk w1 w.heap.size [.pointer (some ⟨g, 0, none⟩)] 29 := HB4.out.below hb1 (by rw [hsz]; omega)
  have hS1 : Below w.heap.size w w1 := HS.out.trans (hb1.mono (by rw [hsz]; omega))
  have hD1 := HD.out.below hS1
  obtain ⟨e0, e1, e2, e3, e4, e5, e6⟩ := hD1.cells
  have k4 := hb4.cell 0
  simp only [List.getElem?_cons_zero] at k4
  have hz1 : w.heap.size + 2 ≤ w1.heap.size := by have := hb1.size; omega
  have hgl1 : g < w1.heap.size := hD1.blk.lt
  have hne : ((d.armed : Int) == 1) = true := by rw [harm]; rfl
  have f5 := hD1.blk.free 5
  have HS1 := Lib.hid hS1
  have HD1 := Lib.hid hD1
  have HB81 := Lib.hid hb8
  have HB41 := Lib.hid hb4
  clear hb1 hb8 hb4 hS1 hD1 harm
  go_wp2_with (fail)
  have hb2 : Below w1.heap.size w1 (w1.alloc (.cells #[.bool true] 4)) := (Below.refl _ w1).alloc (Nat.le_refl _) _
  have hb10 := Blk.new w1 [.bool true] 4
  have hsz2 : (w1.alloc (.cells #[.bool true] 4)).heap.size = w1.heap.size + 1 := by simp
  generalize w1.alloc (.cells #[.bool true] 4) = w2 at *
  have hD2 := HD1.out.below hb2
  obtain ⟨p0, p1, p2, p3, p4, p5, p6⟩ := hD2.cells
  have q4 := (HB41.out.below hb2 (by omega)).cell 0
  have q10 := hb10.cell 0
  have g5 := hD2.blk.free 5
  simp only [List.getElem?_cons_zero] at q4 q10
  have HB2 := Lib.hid hb2
  have HD2 := Lib.hid hD2
  have HB10 := Lib.hid hb10
  clear hb2 hb10 hD2 e0 e1 e2 e3 e4 e5 e6 k4 f5
  go_region
  have hD3 : DiskIn (w2.setCell ⟨g, 5, none⟩ (.int .i64 (max 0 ((d.armed : Int) - 1)))).drew g L (dless d) N := by
    refine DiskIn.drew (HD2.out.setHead rfl rfl rfl rfl rfl ?_ (by simp [World.setCell]) (fun k _ hk => Below.heap_setCell _ _ _ _ hk))
    have e1 : max 0 ((d.armed : Int) - 1) = ((d.armed - 1 : Nat) : Int) := by have := HARM.out; omega
    rw [e1]
    exact HD2.out.blk.set 5 (.int .i64 ((d.armed - 1 : Nat) : Int))
  have hz3 : (w2.setCell ⟨g, 5, none⟩ (.int .i64 (max 0 ((d.armed : Int) - 1)))).drew.heap.size = w2.heap.size := by simp [World.setCell]
  have hk3 : ∀ k, k ≠ g → (w2.setCell ⟨g, 5, none⟩ (.int .i64 (max 0 ((d.armed : Int) - 1)))).drew.heap[k]? = w2.heap[k]? := fun k hk => Below.heap_setCell _ _ _ _ hk
  have ho3 : (w2.setCell ⟨g, 5, none⟩ (.int .i64 (max 0 ((d.armed : Int) - 1)))).drew.os = w2.os := rfl
  have ht3 : (w2.setCell ⟨g, 5, none⟩ (.int .i64 (max 0 ((d.armed : Int) - 1)))).drew.tape = w2.tape := rfl
  have hu3 : (w2.setCell ⟨g, 5, none⟩ (.int .i64 (max 0 ((d.armed : Int) - 1)))).drew.output = w2.output := rfl
  generalize (w2.setCell ⟨g, 5, none⟩ (.int .i64 (max 0 ((d.armed : Int) - 1)))).drew = w3 at *
  have hS2 : Below w.heap.size w w2 := HS1.out.trans (HB2.out.mono (by omega))
  have hT3 : Stp (L.foot g) (L.foot g) w w3 := ⟨ho3.trans hS2.os, ht3.trans hS2.tape, hu3.trans hS2.output, by rw [hz3]; exact hS2.size, fun k hk hA => (hk3 k (fun e => hA (e ▸ foot_g))).trans (hS2.block k hk), fun k hk => Or.inl hk⟩
  have hY3 : ∀ b, w.heap.size ≤ b → b ∉ L.foot g ++ Y := fun b hb hm => by
    rcases List.mem_append.1 hm with hm | hm
    · have := HD.out.lt b hm; omega
    · have := HY.out b hm; omega
  have n8 : Blk w3 (w.heap.size + 1) [.nilIface] 33 := (HB81.out.below HB2.out (by omega)).same (hk3 _ (by have := HD.out.blk.lt; omega))
  have n4 : Blk w3 w.heap.size [.pointer (some ⟨g, 0, none⟩)] 29 := (HB41.out.below HB2.out (by omega)).same (hk3 _ (by have := HD.out.blk.lt; omega))
  have n10 : Blk w3 w1.heap.size [.bool true] 4 := HB10.out.same (hk3 _ (by omega))
  have HD3 := Lib.hid hD3
  have k8 := n8.cell 0
  have f8 := n8.free 0
  have k10 := n10.cell 0
  simp only [List.getElem?_cons_zero] at k8 k10
  have HT3 := Lib.hid hT3
  have HN8 := Lib.hid n8
  have HN10 := Lib.hid n10
  have HN4 := Lib.hid n4
  have HY3 := Lib.hid hY3
  clear hD3 hk3 ho3 ht3 hu3 hS2 hT3 n8 n10 n4 hY3 p0 p1 p2 p3 p4 p5 p6 q4 q10 g5
  go_wp2_with (fail)
  have m10' : (w3.setCell ⟨w.heap.size + 1, 0, none⟩ .nilIface).cell? ⟨w1.heap.size, 0, none⟩ = some (.bool true) := (HN10.out.setO _ (by show w.heap.size + 1 ≠ w1.heap.size; omega) _).cell 0
  have m4' : (w3.setCell ⟨w.heap.size + 1, 0, none⟩ .nilIface).cell? ⟨w.heap.size, 0, none⟩ = some (.pointer (some ⟨g, 0, none⟩)) := (HN4.out.setO _ (by show w.heap.size + 1 ≠ w.heap.size; omega) _).cell 0
  have m8' : Blk (w3.setCell ⟨w.heap.size + 1, 0, none⟩ .nilIface) (w.heap.size + 1) [.nilIface] 33 := HN8.out.set 0 _
  have hn8 : w.heap.size + 1 ∉ L.foot g := fun hm => HY3.out _ (by omega) (List.mem_append_left _ hm)
  have hfin : Stp (L.foot g) (L.foot g) w (w3.setCell ⟨w.heap.size + 1, 0, none⟩ .nilIface) := by
    have h3 := HT3.out
    exact ⟨h3.os, h3.tape, h3.output, by simpa [World.setCell] using h3.size, fun k hk hA => (Below.heap_setCell _ _ _ _ (by show k ≠ w.heap.size + 1; omega)).trans (h3.block k hk hA), h3.inn⟩
  have hD5 := HD3.out.setO ⟨w.heap.size + 1, 0, none⟩ hn8 .nilIface
  refine leaves_cons (f := 116) (args := #[.pointer (some ⟨w1.heap.size, 0, none⟩), .pointer (some ⟨w.heap.size, 0, none⟩), .pointer (some ⟨w.heap.size + 1, 0, none⟩)]) (by simp) (by simp [go_sem]) ?_
  refine (dkDefer_yes _ _ _ g L _ N _ .returning _ m10' m4' m8' hn8 hD5 HK'.out HB'.out (by omega)).mono ?_
  rintro e u' w6 ⟨rfl, rfl, k86, L6, hL6, hT6⟩
  refine ⟨.iface 102 (.int .i64 20), by simp [results, Tryz.results61, go_sem, k86], rfl, L6, hL6.mono (Nat.le_succ _), ?_⟩
  exact ⟨hT6.os.trans hfin.os, hT6.tape.trans hfin.tape, hT6.output.trans hfin.output, Nat.le_trans hfin.size hT6.size, fun k hk hA => (hT6.block k (Nat.lt_of_lt_of_le hk hfin.size) (fun hm => by
      rcases List.mem_append.1 hm with hm | hm
      · exact hA (List.mem_append_left _ hm)
      · have e1 : k = w.heap.size + 1 := by simpa using hm
        omega)).trans (hfin.block k hk (fun e => hA (List.mem_append_left _ e))), fun k hk => by
      rcases hT6.inn k hk with hm | hm
      · rcases List.mem_append.1 hm with hm | hm
        · exact Or.inl (List.mem_append_left _ hm)
        · have e1 : k = w.heap.size + 1 := by simpa using hm
          exact Or.inr (by omega)
      · exact Or.inr (Nat.le_trans hfin.size hm)⟩

/-- AN OPERATION: refused, done, or struck. -/
theorem dkoperate_any (w : World) (g : Nat) (L : Lay) (d : Dk) (N : Nat) (o : Od) (late : Bool) (fr fa : FuncId) (cr ca : Array Value) (Y : List Nat) (h : DiskIn w g L d N) (hk : DkOk d) (hb : DkB d N) (hN : N + 1 < 4294967296) (ho : odOk o) (hY : ∀ y ∈ Y, y < w.heap.size) (efr : Enters Tryz.prog fr) (efa : Enters Tryz.prog fa)
    (hr : ∀ w1, Below w.heap.size w w1 → Calls Tryz.prog fr cr w1 (RefPost (drefused d o) w1))
    (hl : late = true → dact (dless d) true o = dless d) (hl2 : late = false → dact (dless d) true o = dact (dless d) false o)
    (ha : drefused d o = 0 → d.off = false → ∀ w1, DiskIn w1 g L (dless d) N → w.heap.size ≤ w1.heap.size → (∀ k, k < w.heap.size → k ∉ L.foot g → w1.heap[k]? = w.heap[k]?) → Calls Tryz.prog fa ca w1 (ActPost g L (dact (dless d) false o) N Y w1)) :
    Calls Tryz.prog 61 #[.pointer (some ⟨g, 0, none⟩), .func (.func fr) #[] cr, .bool late, .func (.func fa) #[] ca] w (OpPost g L (ddo d o).1 (ddo d o).2 N Y w) := by
  unfold ddo
  by_cases hoff0 : d.off = true
  · rw [if_pos hoff0]
    exact dkoperate_off w g L d N late _ _ h hoff0 Y
  · rw [if_neg hoff0]
    have hoff : d.off = false := by simpa using hoff0
    by_cases hno : drefused d o = 0
    · rw [if_neg (by omega)]
      have hr1 : drefused (dless d) o = 0 := by unfold dless; rw [drefused_armed]; exact hno
      have hdl : DkOk (dless d) := hk.armed _
      have hbl : DkB (dless d) N := hb.armed' _ (by have := hb.armed; omega)
      by_cases harm : d.armed = 1
      · rw [if_pos harm]
        cases late with
        | true =>
          have e1 : dact { d with armed := d.armed - 1 } true o = dless d := hl rfl
          rw [e1]
          exact dkoperate_late w g L d N o fr cr _ h hoff Y hY efr hr hno harm hN hdl hbl
        | false =>
          have e1 : dact { d with armed := d.armed - 1 } true o = dact (dless d) false o := hl2 rfl
          rw [e1]
          exact dkoperate_hit w g L d N o fr fa cr ca h hoff Y hY efr efa hr hno harm hN (hdl.act false o hr1) (hbl.act false o ho hoff hr1) (ha hno hoff)
      · rw [if_neg harm]
        exact dkoperate_act w g L d N o late fr fa cr ca h hoff Y hY efr efa hr hno harm hb.armed (ha hno hoff)
    · rw [if_pos hno]
      exact dkoperate_ref w g L d N o late fr cr _ h hoff Y efr hr hno
end Go.Proofs.YtfgpigblnkanpaaGreatDoor
