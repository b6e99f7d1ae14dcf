/- A disk and the document's, beside each other: an operation of both. -/
import Derived.Test.YtfgpigblnkanpaaGreatDoorRs
import Derived.Test.YtfgpigblnkanpaaGreatDoorGF
import Derived.Test.YtfgpigblnkanpaaGreatDoorGJ
import Derived.Deep.DeepCutAuto
import Derived.Deep.RegionWith
namespace Go.Proofs.YtfgpigblnkanpaaGreatDoor
open Go.RowKit Go.Maps Go.Shelf
set_option linter.unusedVariables false
set_option linter.unusedSimpArgs false

section
variable {R S R' S' : World → List Nat → Prop} {w : World} {A : List Nat} {f : FuncId} {args : Array Value} {E : Ending → Prop}
/-- A call on the first of two. -/
theorem Both.callL (hS : Res S) (hR' : Res R') (h : Both R S w A) (hc : ∀ A1, R w A1 → Calls Tryz.prog f args w fun e w' => E e ∧ ResTo R' A1 w w') : Calls Tryz.prog f args w fun e w' => E e ∧ ResTo (Both R' S) A w w' := by
  obtain ⟨A1, A2, h1, h2, h3, h4, h5, h6⟩ := h
  exact (hc A1 h1).mono fun e w' ⟨he, A', h7, h8⟩ => ⟨he, Both.step hS h2 h3 h4 h5 hR' h7 h8⟩
theorem Both.callR (hR : Res R) (hS' : Res S') (h : Both R S w A) (hc : ∀ A2, S w A2 → Calls Tryz.prog f args w fun e w' => E e ∧ ResTo S' A2 w w') : Calls Tryz.prog f args w fun e w' => E e ∧ ResTo (Both R S') A w w' :=
  (h.swap.callL hR hS' hc).mono fun e w' ⟨he, hp⟩ => ⟨he, hp.map fun B hB => hB.swap⟩
end
/-- The program's disk at g and the document's at r, both d. -/
def Pr2 (g r : Nat) (d e : Dk) (N : Nat) : World → List Nat → Prop := Both (fun w A => Hd w A g d N) (fun w A => Rd2 w A r e N)
theorem Pr2.res (g r : Nat) (d e : Dk) (N : Nat) : Res (Pr2 g r d e N) := Both.res (Hd.res g d N) (Rd2.res r e N)
theorem Pr2.mono {g r : Nat} {d e : Dk} {N M : Nat} {w : World} {A : List Nat} (h : Pr2 g r d e N w A) (hm : N ≤ M) : Pr2 g r d e M w A := Both.map h (fun B h => h.mono hm) (fun B h => h.mono hm)
theorem ddo_code (d : Dk) (o : Od) : (ddo d o).2 ≤ 25 := by
  have := drefused_le d o
  unfold ddo
  split
  · exact Nat.le_of_ble_eq_true rfl
  · split
    · exact Nat.le_trans this.1 (by omega)
    · split
      · exact Nat.le_of_ble_eq_true rfl
      · exact Nat.zero_le _
theorem odSmall_of {s : Sp} (h1 : s.name.length ≤ 140737488355328) (h2 : s.data.length ≤ 140737488355328) : odSmall (odOf s) := by
  unfold odOf
  split
  · exact h1
  · split
    · exact ⟨h1, h2⟩
    · split
      · exact h1
      · split
        · exact ⟨h1, h2⟩
        · split
          · exact h1
          · trivial
theorem odOf_text {s : Sp} (n : Nm) (t : List UInt8) (h : odOf s = .write n t) : s.data = t := by
  unfold odOf at h
  split at h
  · cases h
  · split at h
    · cases h; rfl
    · split at h
      · cases h
      · split at h
        · cases h
        · split at h <;> cases h
theorem ErrorLaid.stp {w w' : World} {A B : List Nat} (h : ErrorLaid w) (hs : Stp A B w w') (hA : 0 ∉ A) : ErrorLaid w' := (World.cell?_of_block (a := ⟨0, 0, none⟩) (hs.block _ (World.block_lt_of_cell? w _ h) hA)).trans h
set_option maxHeartbeats 4000000 in
set_option maxRecDepth 100000 in
theorem pstep_op (w : World) (A : List Nat) (g r : Nat) (d : Dk) (N : Nat) (s : Sp) (ka : Option Addr) (kn kc : Nat) (h : Pr2 g r d d N w A) (hN : N + 1 ≤ 1073741824) (h1 : s.name.length ≤ 140737488355328) (h2 : s.data.length ≤ 140737488355328) (hg : ErrorLaid w) (hgA : 0 ∉ A) (hd1 : 1 ≤ s.do_) (hd6 : s.do_ ≤ 6) :
    Calls Tryz.prog 23 #[.agg #[.pointer (some ⟨g, 0, none⟩), .pointer (some ⟨r, 0, none⟩)], .agg (s.cells (.slice ka kn kc)).toArray] w fun e w' => e = .returned (.bool true) ∧ ResTo (Pr2 g r (ddo d (odOf s)).1 (ddo d (odOf s)).1 (N + 1)) A w w' := by
  have hlt := (Pr2.res g r d d N).lt h
  have hb0 := (Blk.new w [.pointer (some ⟨g, 0, none⟩), .pointer (some ⟨r, 0, none⟩)] 58).alloc (.cells (s.cells (.slice ka kn kc)).toArray 36)
  have hb1 := Blk.new (w.alloc (.cells ([.pointer (some ⟨g, 0, none⟩), .pointer (some ⟨r, 0, none⟩)] : List Value).toArray 58)) (s.cells (.slice ka kn kc)) 36
  rw [World.size_alloc] at hb1
  have hgl : 0 < w.heap.size := World.block_lt_of_cell? w _ hg
  have hS : Below w.heap.size w ((w.alloc (.cells ([.pointer (some ⟨g, 0, none⟩), .pointer (some ⟨r, 0, none⟩)] : List Value).toArray 58)).alloc (.cells (s.cells (.slice ka kn kc)).toArray 36)) := ((Below.refl _ w).alloc (Nat.le_refl _) _).alloc (by simp) _
  have hH := (Pr2.res g r d d N).below h hS
  have hop := Both.callL (E := fun e => e = .returned (errV (ddo d (odOf s)).2)) (R' := fun w A => Hd w A g (ddo d (odOf s)).1 (N + 1)) (Rd2.res r d N) (Hd.res _ _ _) hH fun A1 hA1 => operation_any _ A1 g d N s (.slice ka kn kc) ⟨_, _, _, rfl⟩ hA1 (by omega) h1 h2
  have hnm := fun W => named_any W s (.slice ka kn kc) ⟨_, _, _, rfl⟩ hd1 hd6
  have hdo : ∀ W A1, Rd2 W A1 r d N → Calls Tryz.prog 70 #[.pointer (some ⟨r, 0, none⟩), .agg (odCells s.name (odOf s)).toArray, strV s.data] W fun e w' => e = .returned (.int .i64 ((ddo d (odOf s)).2 : Nat)) ∧ ResTo (fun w A => Rd2 w A r (ddo d (odOf s)).1 (N + 1)) A1 W w' := fun W A1 hp => rDo_rd hp hN (odOf s) s.name s.data (odSmall_of h1 h2) (fun n t e => odOf_text n t e) h2
  have hpl := fun W (hgW : ErrorLaid W) => Plain_same (ddo d (odOf s)).2 W (ddo_code d _) hgW
  have HOP := Lib.hid hop
  have HNM := Lib.hid hnm
  have HDO := Lib.hid hdo
  have HPL := Lib.hid hpl
  have HS := Lib.hid hS
  have HLT := Lib.hid hlt
  have HB0 := Lib.hid hb0
  have HB1 := Lib.hid hb1
  have HG := Lib.hid (hg.below hS)
  have y0 := hb0.cell 0
  have z0 := hb1.cell 0
  simp only [List.getElem?_cons_zero, List.getElem?_cons_succ] at y0
  have z3 := hb1.cell 3
  unfold Sp.cells at *
  simp only [List.getElem?_cons_zero, List.getElem?_cons_succ] at z0 z3
  clear h hop hnm hdo hpl hS hlt hb0 hb1 hg hH
  generalize (odCells s.name (odOf s)).toArray = X at *
  generalize ddo d (odOf s) = p at *
  obtain ⟨do_, who, name, data, n, keep⟩ := s
  simp only at *
  have hcase : do_ = 1 ∨ do_ = 2 ∨ do_ = 3 ∨ do_ = 4 ∨ do_ = 5 ∨ do_ = 6 := by omega
  go_enter Tryz.func23, Tryz.ntmps23
  go_upto_if 20 with (fail)
  go_cut [20] (fun s20 wx => s20 = .bool true ∧ wx = (w.alloc (.cells #[.pointer (some ⟨g, 0, none⟩), .pointer (some ⟨r, 0, none⟩)] 58)).alloc (.cells #[.int .i64 do_, .int .i64 who, strV name, strV data, .int .i64 n, .slice ka kn kc] 36))
  case first =>
    rcases hcase with rfl | rfl | rfl | rfl | rfl | rfl
    all_goals
      go_wp2_with (fail)
      go_meet
      exact ⟨rfl, rfl⟩
  case rest =>
    obtain ⟨rfl, rfl⟩ := hcut
    go_wp2_with (fail)
    refine HOP.out.mono ?_
    rintro e w1 ⟨rfl, A1, hB1, hs1⟩
    have hA1 : ∀ k ∈ A, k < w.heap.size := HLT.out
    have hy := hs1.blk HB0.out (fun hm => by have := hA1 _ hm; omega)
    have hz := hs1.blk HB1.out (fun hm => by have := hA1 _ hm; omega)
    have y1 := hy.cell 1
    have z0 := hz.cell 0
    have z1 := hz.cell 1
    have z2 := hz.cell 2
    have z3 := hz.cell 3
    have z4 := hz.cell 4
    have z5 := hz.cell 5
    simp only [List.getElem?_cons_zero, List.getElem?_cons_succ] at y1 z0 z1 z2 z3 z4 z5
    have hly := hy.lt
    have hlz := hz.lt
    have hb01 : Stp A A1 w w1 := (Stp.of_below (A := A) (B := A) HS.out fun k hk => Or.inl hk).trans hs1
    have hDO := fun W (hb : Below w1.heap.size w1 W) => Both.callR (E := fun e => e = .returned (.int .i64 (p.2 : Nat))) (S' := fun w A => Rd2 w A r p.1 (N + 1)) (Hd.res g p.1 (N + 1)) (Rd2.res _ _ _) ((Both.res (Hd.res g p.1 (N + 1)) (Rd2.res r d N)).below hB1 hb) (fun A2 hA2 => HDO.out W A2 hA2)
    have HDO2 := Lib.hid hDO
    have HG1 : Hid (ErrorLaid w1) := HG.out.stp hs1 hgA
    have HS1 := Lib.hid hb01
    have hgA1 : 0 ∉ A1 := fun hm => by
      rcases hs1.inn _ hm with h9 | h9
      · exact hgA h9
      · have := HS.out.size; omega
    clear hB1 hs1 hA1 hy hz hb01 hDO
    go_upto_region 9 with (fail)
    go_region_with (first
      | (go_at_call 71; refine (HNM.out _).mono ?_; rintro e w2 ⟨rfl, hb2⟩; have hbu := below_undrew hb2; have q1 := (hbu.cell (p := ⟨w.heap.size, 1, none⟩) hly).trans y1; have r3 := (hbu.cell (p := ⟨w.heap.size + 1, 3, none⟩) hlz).trans z3)
      | (go_at_call 70; refine (HDO2.out _ hbu).mono ?_; rintro e w3 ⟨rfl, A3, hB3, hs3⟩)
      | (go_at_call 28; refine (HPL.out _ ((HG1.out.below hbu).stp hs3 hgA1)).mono ?_; rintro e w4 ⟨rfl, hb4⟩))
    all_goals
      have hres : ResTo (Pr2 g r p.1 p.1 (N + 1)) A w w4 := ⟨A3, (Pr2.res g r p.1 p.1 (N + 1)).below hB3 hb4, HS1.out.trans ((Stp.of_below (A := A1) (B := A1) hbu fun k hk => Or.inl hk).trans (hs3.trans (Stp.of_below hb4 fun k hk => Or.inl hk)))⟩
      have HRES := Lib.hid hres
      clear hres hB3 hs3 hb4 hbu hb2
      go_wp2
      go_ret
      exact ⟨rfl, HRES.out⟩
end Go.Proofs.YtfgpigblnkanpaaGreatDoor
