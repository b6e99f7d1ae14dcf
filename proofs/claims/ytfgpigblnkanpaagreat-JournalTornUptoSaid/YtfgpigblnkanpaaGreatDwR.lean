/- The walks of what an operation of a disk is refused by: all but Write's. -/
import Derived.Test.YtfgpigblnkanpaaGreatDwN
import Derived.Deep.QuietTactic
namespace Go.Proofs.YtfgpigblnkanpaaGreat
open Go.RowKit Go.Maps Go.Shelf

theorem errV_no {n : Nat} (h : n ≠ 0) : errV n = .iface 52 (.int .i64 n) := by rw [errV, if_neg h]
theorem errV_0 : errV 0 = .nilIface := rfl
theorem refused_sync (d : Dk) (n : Nm) : drefused d (.sync n) = thereNo d.now n := rfl
theorem refused_remove (d : Dk) (n : Nm) : drefused d (.remove n) = thereNo d.now n := rfl
theorem refused_rename (d : Dk) (o n : Nm) : drefused d (.rename o n) = if thereNo d.now o = 0 then rightNo n else thereNo d.now o := by
  unfold thereNo
  show (if (tget d.now o).isSome = false then 18 else if badName n = true then 21 else 0) = _
  cases (tget d.now o).isSome <;> rfl
theorem refused_create (d : Dk) (n : Nm) : drefused d (.create n) = if rightNo n = 0 then (if (tget d.now n).isSome = true then 13 else 0) else rightNo n := by
  unfold rightNo
  show (if badName n = true then 21 else if (tget d.now n).isSome = true then 13 else 0) = _
  cases badName n <;> rfl
def RefPost (no : Nat) (w : World) (e : Ending) (w' : World) : Prop := e = .returned (errV no) ∧ Below w.heap.size w w'

set_option maxHeartbeats 1000000 in
set_option maxRecDepth 100000 in
theorem dkSyncR_any (w : World) (g : Nat) (L : Lay) (d : Dk) (N x y : Nat) (n : Nm) (hn : n.length ≤ 9223372036854775807) (h : DiskIn w g L d N) (hk : DkOk d) (hx : Blk w x [.pointer (some ⟨g, 0, none⟩)] 24) (hy : Blk w y [strV n] 9) :
    Calls Tryz.prog 37 #[.pointer (some ⟨x, 0, none⟩), .pointer (some ⟨y, 0, none⟩)] w (RefPost (drefused d (.sync n)) w) := by
  have x0 := hx.cell 0
  have y0 := hy.cell 0
  simp only [List.getElem?_cons_zero] at x0 y0
  have hC := dkthere_any w g L d N n hn h hk
  clear h hk hx hy
  go_enter Tryz.func37, Tryz.ntmps37
  go_wp2_with (go_at_call 24; refine hC.mono ?_; rintro e w' ⟨rfl, rfl⟩)
  go_ret
  exact ⟨rfl, Below.refl _ _⟩
set_option maxHeartbeats 1000000 in
set_option maxRecDepth 100000 in
theorem dkRemoveR_any (w : World) (g : Nat) (L : Lay) (d : Dk) (N x y : Nat) (n : Nm) (hn : n.length ≤ 9223372036854775807) (h : DiskIn w g L d N) (hk : DkOk d) (hx : Blk w x [.pointer (some ⟨g, 0, none⟩)] 24) (hy : Blk w y [strV n] 9) :
    Calls Tryz.prog 52 #[.pointer (some ⟨x, 0, none⟩), .pointer (some ⟨y, 0, none⟩)] w (RefPost (drefused d (.remove n)) w) := by
  have x0 := hx.cell 0
  have y0 := hy.cell 0
  simp only [List.getElem?_cons_zero] at x0 y0
  have hC := dkthere_any w g L d N n hn h hk
  clear h hk hx hy
  go_enter Tryz.func52, Tryz.ntmps52
  go_wp2_with (go_at_call 24; refine hC.mono ?_; rintro e w' ⟨rfl, rfl⟩)
  go_ret
  exact ⟨rfl, Below.refl _ _⟩
set_option maxHeartbeats 1000000 in
set_option maxRecDepth 100000 in
theorem dkFlushR_any (w : World) (d : Dk) : Calls Tryz.prog 55 #[] w (RefPost (drefused d .flush) w) := by
  go_enter Tryz.func55, Tryz.ntmps55
  go_wp2
  go_ret
  exact ⟨rfl, Below.refl _ _⟩
set_option maxHeartbeats 1000000 in
set_option maxRecDepth 100000 in
theorem dkRenameR_any (w : World) (g : Nat) (L : Lay) (d : Dk) (N x y z : Nat) (o n : Nm) (ho : o.length ≤ 9223372036854775807) (hn : n.length ≤ 9223372036854775807) (h : DiskIn w g L d N) (hk : DkOk d) (hx : Blk w x [.pointer (some ⟨g, 0, none⟩)] 24) (hy : Blk w y [strV o] 9) (hz : Blk w z [strV n] 9) :
    Calls Tryz.prog 73 #[.pointer (some ⟨x, 0, none⟩), .pointer (some ⟨y, 0, none⟩), .pointer (some ⟨z, 0, none⟩)] w (RefPost (drefused d (.rename o n)) w) := by
  have x0 := hx.cell 0
  have y0 := hy.cell 0
  have z0 := hz.cell 0
  simp only [List.getElem?_cons_zero] at x0 y0 z0
  have hC := dkthere_any w g L d N o ho h hk
  have hR := dkRight_any n w hn
  rw [refused_rename]
  generalize rightNo n = r at *
  generalize thereNo d.now o = q at *
  clear h hk hx hy hz
  by_cases hq : q = 0
  · subst hq
    rw [if_pos rfl]
    go_enter Tryz.func73, Tryz.ntmps73
    go_wp2_with (first | (go_at_call 24; refine hC.mono ?_; rintro e w' ⟨rfl, rfl⟩; rw [errV_0]) | (go_at_call 27; refine hR.mono ?_; rintro e w' ⟨rfl, rfl⟩))
    go_ret
    exact ⟨rfl, Below.refl _ _⟩
  · rw [if_neg hq]
    have HQ := Lib.hid (errV_no hq)
    have HQ0 := Lib.hid hq
    clear hq
    go_enter Tryz.func73, Tryz.ntmps73
    go_wp2_with (first | (go_at_call 24; refine hC.mono ?_; rintro e w' ⟨rfl, rfl⟩; rw [HQ.out]))
    go_ret
    exact ⟨by rw [HQ.out]; rfl, Below.refl _ _⟩
set_option maxHeartbeats 1000000 in
set_option maxRecDepth 100000 in
theorem dkCreateR_any (w : World) (g : Nat) (L : Lay) (d : Dk) (N x y : Nat) (n : Nm) (hn : n.length ≤ 9223372036854775807) (h : DiskIn w g L d N) (hk : DkOk d) (hx : Blk w x [.pointer (some ⟨g, 0, none⟩)] 24) (hy : Blk w y [strV n] 9) :
    Calls Tryz.prog 26 #[.pointer (some ⟨y, 0, none⟩), .pointer (some ⟨x, 0, none⟩)] w (RefPost (drefused d (.create n)) w) := by
  have x0 := hx.cell 0
  have y0 := hy.cell 0
  simp only [List.getElem?_cons_zero] at x0 y0
  obtain ⟨c0, c1, c2, c3, c4, c5, c6⟩ := h.cells
  have hR := dkRight_any n w hn
  have hl := fun k => (h.drewN k).now.look hk.now n hn
  have hnil := run_neq_pnil
  have hsome := run_neq_psome
  rw [refused_create]
  generalize rightNo n = q at *
  clear hk hx hy
  by_cases hq : q = 0
  · subst hq
    rw [if_pos rfl]
    cases hg : tget d.now n with
    | none =>
      simp only [hg, fileV] at hl
      have HG := Lib.hid hg
      clear hg h
      go_enter Tryz.func26, Tryz.ntmps26
      go_wp2_with (first | (go_at_call 27; refine hR.mono ?_; rintro e w' ⟨rfl, rfl⟩; rw [errV_0]))
      go_quiet (fail)
      go_wp2
      go_ret
      exact ⟨rfl, below_drewN (Below.refl _ _) _⟩
    | some f =>
      simp only [hg, fileV] at hl
      have HG := Lib.hid hg
      clear hg h
      go_enter Tryz.func26, Tryz.ntmps26
      go_wp2_with (first | (go_at_call 27; refine hR.mono ?_; rintro e w' ⟨rfl, rfl⟩; rw [errV_0]))
      go_quiet (fail)
      go_wp2
      go_ret
      exact ⟨rfl, below_drewN (Below.refl _ _) _⟩
  · rw [if_neg hq]
    have HQ := Lib.hid (errV_no hq)
    have HQ0 := Lib.hid hq
    clear hq h
    go_enter Tryz.func26, Tryz.ntmps26
    go_wp2_with (first | (go_at_call 27; refine hR.mono ?_; rintro e w' ⟨rfl, rfl⟩; rw [HQ.out]))
    go_ret
    exact ⟨by rw [HQ.out]; rfl, Below.refl _ _⟩
end Go.Proofs.YtfgpigblnkanpaaGreat
