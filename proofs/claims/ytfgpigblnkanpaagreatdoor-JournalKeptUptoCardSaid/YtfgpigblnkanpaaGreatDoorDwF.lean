/- The walk of what Flush does: the names are made safe. -/
import Derived.Test.YtfgpigblnkanpaaGreatDoorDwY
import Derived.Deep.RegionWith
namespace Go.Proofs.YtfgpigblnkanpaaGreatDoor
open Go.RowKit Go.Maps Go.Shelf

theorem flush_done {w w1 : World} {g : Nat} {L : Lay} {d : Dk} {N : Nat} (h : DiskIn w g L d N) (hm : MapIs w1 w.heap.size d.now L.F N ∧ Below w.heap.size w w1 ∧ w1.heap.size = w.heap.size + 1) :
    DiskIn ((w1.setCell ⟨g, 3, none⟩ (.map (some w.heap.size))).setCell ⟨g, 4, none⟩ (.slice none 0 0)) g { L with bs := w.heap.size, X := [], vs := [], vp := .slice none 0 0 } { d with safe := d.now, pend := [] } N ∧
      Stp (L.foot g ++ []) ({ L with bs := w.heap.size, X := [], vs := [], vp := .slice none 0 0 : Lay }.foot g) w ((w1.setCell ⟨g, 3, none⟩ (.map (some w.heap.size))).setCell ⟨g, 4, none⟩ (.slice none 0 0)) := by
  obtain ⟨hm, hb, hs⟩ := hm
  have ap := h.apart
  have hlt := h.lt
  have hgl := h.blk.lt
  have hoth : ∀ k, k ≠ g → ((w1.setCell ⟨g, 3, none⟩ (.map (some w.heap.size))).setCell ⟨g, 4, none⟩ (.slice none 0 0)).heap[k]? = w1.heap[k]? := fun k hk => by
    rw [Below.heap_setCell _ _ _ _ hk, Below.heap_setCell _ _ _ _ hk]
  have hold : ∀ k, k < w.heap.size → k ≠ g → ((w1.setCell ⟨g, 3, none⟩ (.map (some w.heap.size))).setCell ⟨g, 4, none⟩ (.slice none 0 0)).heap[k]? = w.heap[k]? := fun k hk hg => (hoth k hg).trans (hb.block k hk)
  have hsz : ((w1.setCell ⟨g, 3, none⟩ (.map (some w.heap.size))).setCell ⟨g, 4, none⟩ (.slice none 0 0)).heap.size = w.heap.size + 1 := by simp [World.setCell, hs]
  have hne : ∀ k ∈ L.foot g, k ≠ w.heap.size := fun k hk e => by have := hlt k hk; omega
  refine ⟨⟨?_, ?_, ?_, h.len, ?_, ?_, trivial, ?_, ?_, ?_⟩, ?_⟩
  · have hb1 := (h.blk.below hb hgl).set 3 (.map (some w.heap.size))
    exact hb1.set 4 (.slice none 0 0)
  · exact h.now.same (hold _ (hlt _ foot_bn) ap.gbn.symm)
  · exact (hm.same (hoth _ (by omega))).mono (Nat.le_refl _)
  · intro i hi
    have hm := getD_mem (F := L.F) (i := i) (by rw [h.len]; exact hi)
    exact (h.files i hi).same (hold _ (hlt _ (foot_F hm)) (fun e => ap.gF (e ▸ hm)))
  · exact World.ownsRow_nil _ _ _ _
  · intro x hx; cases hx
  · exact ownsRow_same h.fate fun k hk => hold k (hlt k (foot_vf hk)) (fun e => ap.gvf k hk e.symm)
  · exact ⟨ap.gbn, hne g foot_g, ap.gF, by simp, fun k hk => (by cases hk), ap.gvf, hne _ foot_bn, ap.nF, by simp, fun k hk => (by cases hk), ap.nvf, fun e => hne _ (foot_F e) rfl, by simp, fun k hk => (by cases hk), fun k hk e => hne k (foot_vf hk) e.symm, ap.FF, fun k hk => (by cases hk), fun k hk => (by cases hk), ap.Fvf, fun k hk => (by cases hk), fun k hk => (by cases hk)⟩
  · refine ⟨hb.os, hb.tape, hb.output, by omega, fun k hk hA => hold k hk (fun e => hA (e ▸ List.mem_append_left _ foot_g)), fun k hk => ?_⟩
    rcases foot_cases hk with rfl | rfl | rfl | hk | hk | hk | hk
    · exact Or.inl (List.mem_append_left _ foot_g)
    · exact Or.inl (List.mem_append_left _ foot_bn)
    · exact Or.inr (Nat.le_refl _)
    · exact Or.inl (List.mem_append_left _ (foot_F hk))
    · cases hk
    · cases hk
    · exact Or.inl (List.mem_append_left _ (foot_vf hk))

set_option maxHeartbeats 4000000 in
set_option maxRecDepth 100000 in
theorem dkFlushA_any (w : World) (g : Nat) (L : Lay) (d : Dk) (N x : Nat) (h : DiskIn w g L d N) (hx : Blk w x [.pointer (some ⟨g, 0, none⟩)] 29) :
    Calls Tryz.prog 66 #[.pointer (some ⟨x, 0, none⟩)] w (ActPost g L (dact d false .flush) N [] w) := by
  have x0 := hx.cell 0
  simp only [List.getElem?_cons_zero] at x0
  obtain ⟨c0, c1, c2, c3, c4, c5, c6⟩ := h.cells
  have hxl := hx.lt
  have hgl := h.blk.lt
  have hfree3 := h.blk.free 3
  have hfree4 := h.blk.free 4
  have hC := h.drew.now.clone.mono (R' := fun e w1 => e = .returned (.map (some w.heap.size)) ∧ w1.cell? ⟨x, 0, none⟩ = some (.pointer (some ⟨g, 0, none⟩)) ∧ w1.cell? ⟨g, 2, none⟩ = some (.map (some L.bn)) ∧ w1.cell? ⟨g, 3, none⟩ = some (.map (some L.bs)) ∧ w1.cell? ⟨g, 4, none⟩ = some L.vp ∧ w1.frozen? ⟨g, 3, none⟩ = false ∧ w1.frozen? ⟨g, 4, none⟩ = false ∧ Hid (MapIs w1 w.heap.size d.now L.F N ∧ Below w.heap.size w w1 ∧ w1.heap.size = w.heap.size + 1)) (fun e w1 ⟨he, hm, hb, hs⟩ =>
    ⟨he, (hb.cell (p := ⟨x, 0, none⟩) hxl).trans x0, (hb.cell (p := ⟨g, 2, none⟩) hgl).trans c2, (hb.cell (p := ⟨g, 3, none⟩) hgl).trans c3, (hb.cell (p := ⟨g, 4, none⟩) hgl).trans c4, (hb.frozen (p := ⟨g, 3, none⟩) hgl).trans hfree3, (hb.frozen (p := ⟨g, 4, none⟩) hgl).trans hfree4, hm, ⟨hb.os, hb.tape, hb.output, hb.size, hb.block⟩, hs⟩)
  have HH := Lib.hid h
  clear h hx
  go_enter Tryz.func66, Tryz.ntmps66
  go_region_with (go_at_call 67; refine hC.mono ?_; rintro e w1 ⟨rfl, k0, k2, k3, k4, f3, f4, hm⟩)
  all_goals (go_end0; exact ⟨rfl, { L with bs := w.heap.size, X := [], vs := [], vp := .slice none 0 0 }, (flush_done HH.out hm.out).1.mono (Nat.le_succ _), (flush_done HH.out hm.out).2⟩)
end Go.Proofs.YtfgpigblnkanpaaGreatDoor
