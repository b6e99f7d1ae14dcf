/- A journal in memory over a disk made within the law; hand, shut, Append. -/
import Derived.Test.YtfgpigblnkanpaaGreatDoorJb
import Derived.Test.YtfgpigblnkanpaaGreatDoorJd
import Derived.Test.YtfgpigblnkanpaaGreatDoorIs
import Derived.Test.YtfgpigblnkanpaaGreatDoorGJ
import Derived.StillTailTactics
namespace Go.Proofs.YtfgpigblnkanpaaGreatDoor
open Go.RowKit Go.Maps Go.Shelf
set_option linter.unusedVariables false

/-- A journal at jb over the disk at g; the blocks K are none of theirs. -/
structure Jl (w0 w : World) (K A : List Nat) (jb g : Nat) (d : Dk) (N : Nat) (nm : Nm) (n : Nat) (c : Bool) : Prop where
  m : Mine w0 w (jb :: K) A g d N
  j : Blk w jb [.pointer (some ⟨g, 0, none⟩), strV nm, .int .i64 n, .bool c] 149
  base : w0.heap.size ≤ jb
  out : jb ∉ K
  len : nm.length ≤ 200
def JlTo (w0 : World) (K : List Nat) (w : World) (jb g : Nat) (d : Dk) (N : Nat) (nm : Nm) (n : Nat) (c : Bool) (w' : World) : Prop :=
  (∃ A, Jl w0 w' K A jb g d N nm n c) ∧ ∀ k ∈ K, w'.heap[k]? = w.heap[k]?
section
variable {w0 w w' : World} {K A : List Nat} {jb g : Nat} {d d' : Dk} {N N' : Nat} {nm : Nm} {n : Nat} {c : Bool}
theorem Jl.below (h : Jl w0 w K A jb g d N nm n c) (hb : Below w.heap.size w w') : Jl w0 w' K A jb g d N nm n c := ⟨h.m.below hb, h.j.below hb h.j.lt, h.base, h.out, h.len⟩
theorem Jl.op (h : Jl w0 w K A jb g d N nm n c) (ht : MineTo w0 (jb :: K) w g d' N' w') : JlTo w0 K w jb g d' N' nm n c w' := by
  obtain ⟨⟨A', h1⟩, h2⟩ := ht
  exact ⟨⟨A', h1, h.j.same (h2 jb List.mem_cons_self), h.base, h.out, h.len⟩, fun k hk => h2 k (List.mem_cons_of_mem _ hk)⟩
theorem Jl.mono (h : Jl w0 w K A jb g d N nm n c) (hm : N ≤ N') : Jl w0 w K A jb g d N' nm n c := ⟨h.m.mono hm, h.j, h.base, h.out, h.len⟩
theorem Jl.cells (h : Jl w0 w K A jb g d N nm n c) : w.cell? ⟨jb, 0, none⟩ = some (.pointer (some ⟨g, 0, none⟩)) ∧ w.cell? ⟨jb, 1, none⟩ = some (strV nm) ∧ w.cell? ⟨jb, 2, none⟩ = some (.int .i64 n) ∧ w.cell? ⟨jb, 3, none⟩ = some (.bool c) := by
  have c0 := h.j.cell 0
  have c1 := h.j.cell 1
  have c2 := h.j.cell 2
  have c3 := h.j.cell 3
  simp only [List.getElem?_cons_zero, List.getElem?_cons_succ] at c0 c1 c2 c3
  exact ⟨c0, c1, c2, c3⟩
theorem Jl.count (h : Jl w0 w K A jb g d N nm n c) (k : Nat) : Jl w0 (w.setCell ⟨jb, 2, none⟩ (.int .i64 k)) K A jb g d N nm k c ∧ ∀ j ∈ K, (w.setCell ⟨jb, 2, none⟩ (.int .i64 k)).heap[j]? = w.heap[j]? :=
  ⟨⟨h.m.set ⟨jb, 2, none⟩ List.mem_cons_self h.base _, h.j.set 2 _, h.base, h.out, h.len⟩, fun j hj => heap_setCell_other _ _ _ _ (fun e => h.out (by have e' : j = jb := e; rw [← e']; exact hj))⟩
theorem Jl.close (h : Jl w0 w K A jb g d N nm n c) (b : Bool) : Jl w0 (w.setCell ⟨jb, 3, none⟩ (.bool b)) K A jb g d N nm n b ∧ ∀ j ∈ K, (w.setCell ⟨jb, 3, none⟩ (.bool b)).heap[j]? = w.heap[j]? :=
  ⟨⟨h.m.set ⟨jb, 3, none⟩ List.mem_cons_self h.base _, h.j.set 3 _, h.base, h.out, h.len⟩, fun j hj => heap_setCell_other _ _ _ _ (fun e => h.out (by have e' : j = jb := e; rw [← e']; exact hj))⟩
end
/-- The name of what is laid in a file's place. -/
def jhandN (nm : Nm) : Nm := nm ++ [126]
set_option maxRecDepth 100000 in
theorem jhand_any (w : World) (jb : Nat) (nm : Nm) (c1 : w.cell? ⟨jb, 1, none⟩ = some (strV nm)) (hl : nm.length ≤ 140737488351232) : Calls Tryz.prog 103 #[.pointer (some ⟨jb, 0, none⟩)] w fun e w' => e = .returned (strV (jhandN nm)) ∧ w = w' := by
  have hsz := str_size nm
  have happ := str_append nm [126]
  have e1 : ({ data := #[126] } : ByteArray) = str [126] := rfl
  have hs1 : (str [126]).size = 1 := rfl
  go_enter Tryz.func103, Tryz.ntmps103
  go_wp2_with (fail)
  go_ret
  exact ⟨rfl, rfl⟩
set_option maxRecDepth 100000 in
theorem jshut_any {w0 w : World} {K A : List Nat} {jb g : Nat} {d : Dk} {N : Nat} {nm : Nm} {n : Nat} {c : Bool} (h : Jl w0 w K A jb g d N nm n c) (no : Nat) : Calls Tryz.prog 104 #[.pointer (some ⟨jb, 0, none⟩), errV no] w fun e w' => e = .returned (errV no) ∧ JlTo w0 K w jb g d N nm n (c || no != 0) w' := by
  by_cases hno : no = 0
  · subst hno
    rw [errV_none]
    have HH := Lib.hid h
    clear h
    go_enter Tryz.func104, Tryz.ntmps104
    go_wp2_with (fail)
    go_ret
    exact ⟨rfl, ⟨A, by simpa using HH.out⟩, fun _ _ => rfl⟩
  · rw [errV_some hno]
    have hfr := h.j.free 3
    have c3 := h.cells.2.2.2
    have hc := h.close true
    have hb : (c || no != 0) = true := by simp [hno]
    rw [hb]
    have HC := Lib.hid hc
    clear h hc hno hb
    go_enter Tryz.func104, Tryz.ntmps104
    go_wp2_with (fail)
    go_ret
    exact ⟨rfl, ⟨A, HC.out.1⟩, HC.out.2⟩
set_option maxHeartbeats 1000000 in
set_option maxRecDepth 100000 in
theorem Is_nil (n : Int) (w : World) : Calls Tryz.prog 82 #[.nilIface, .iface 102 (.int .i64 n)] w fun e w' => e = .returned (.bool false) ∧ w = w' := by
  have hq : (binOp BinOp.eql 33 Value.nilIface (.iface 102 (.int .i64 n))).run Tryz.prog w = .ok (.bool false) w := by kernel_rfl
  go_enter Tryz.func82, Tryz.ntmps82
  go_wp2
  go_ret
  exact ⟨rfl, rfl⟩
/-! ### Append -/
/-- Behind Append: the disk, the error's number, is it closed, how many records. -/
structure Jr where
  d : Dk
  e : Nat
  c : Bool
  n : Nat
def jappend (d : Dk) (nm : Nm) (n : Nat) (c : Bool) (r : List UInt8) : Jr :=
  if c = true then ⟨d, 23, c, n⟩
  else if 16777216 < r.length then ⟨d, 5, c, n⟩
  else if (ddo d (.write nm (jframe r))).2 = 19 then ⟨(ddo d (.write nm (jframe r))).1, 19, c, n⟩
  else if (ddo d (.write nm (jframe r))).2 ≠ 0 then ⟨(ddo d (.write nm (jframe r))).1, (ddo d (.write nm (jframe r))).2, true, n⟩
  else if (ddo (ddo d (.write nm (jframe r))).1 (.sync nm)).2 ≠ 0 then ⟨(ddo (ddo d (.write nm (jframe r))).1 (.sync nm)).1, (ddo (ddo d (.write nm (jframe r))).1 (.sync nm)).2, true, n⟩
  else ⟨(ddo (ddo d (.write nm (jframe r))).1 (.sync nm)).1, 0, c, n + 1⟩
set_option maxHeartbeats 4000000 in
set_option maxRecDepth 100000 in
theorem jAppend_any {w0 w : World} {K A : List Nat} {jb g : Nat} {d : Dk} {N : Nat} {nm : Nm} {n : Nat} {c : Bool} (h : Jl w0 w K A jb g d N nm n c) (r : List UInt8) (hN : N + 2 < 4294967296) (hr : r.length ≤ 4294967296) (hn : n ≤ 4294967296) : Calls Tryz.prog 48 #[.pointer (some ⟨jb, 0, none⟩), strV r] w fun e w' => e = .returned (errV (jappend d nm n c r).e) ∧ JlTo w0 K w jb g (jappend d nm n c r).d (N + 2) nm (jappend d nm n c r).n (jappend d nm n c r).c w' := by
  obtain ⟨c0, c1, c2, c3⟩ := h.cells
  have hsz := str_size r
  have hf2 := h.j.free 2
  have hlen := h.len
  cases c with
  | true =>
    have hh : JlTo w0 K w jb g d (N + 2) nm n true w := ⟨⟨A, h.mono (by omega)⟩, fun _ _ => rfl⟩
    have HH := Lib.hid hh
    clear h hh
    go_enter Tryz.func48, Tryz.ntmps48
    go_wp2_with (fail)
    go_ret
    exact ⟨rfl, HH.out⟩
  | false =>
    by_cases hbig : 16777216 < r.length
    · have hh : JlTo w0 K w jb g d (N + 2) nm n false w := ⟨⟨A, h.mono (by omega)⟩, fun _ _ => rfl⟩
      have HH := Lib.hid hh
      have e1 : jappend d nm n false r = ⟨d, 5, false, n⟩ := by unfold jappend; rw [if_neg (by simp), if_pos hbig]
      rw [e1]
      clear h hh e1
      go_enter Tryz.func48, Tryz.ntmps48
      go_wp2_with (fail)
      go_ret
      exact ⟨rfl, HH.out⟩
    · have HF := Lib.hid fun W => jframe_any r W (by omega)
      have hfl : (jframe r).length ≤ 140737488355328 := by rw [jframe_len]; have := uintL_len (n := r.length + 1) (by omega); omega
      have HW : Hid (∀ W, Below w.heap.size w W → Calls Tryz.prog 31 #[.pointer (some ⟨g, 0, none⟩), strV nm, strV (jframe r)] W fun e w' => e = .returned (errV (ddo d (.write nm (jframe r))).2) ∧ JlTo w0 K w jb g (ddo d (.write nm (jframe r))).1 (N + 1) nm n false w') := by
        show ∀ W, _ → _
        intro W hb
        refine (Write_m (h.below hb).m nm (jframe r) rfl (by omega) (by omega) hfl).mono ?_
        rintro e w' ⟨he, ht⟩
        have h1 := (h.below hb).op ht
        exact ⟨he, h1.1, fun k hk => (h1.2 k hk).trans (hb.block k (h.m.far k (List.mem_cons_of_mem _ hk)).1)⟩
      have hjl := h.j.lt
      have HH := Lib.hid h
      have hq2 : ¬ (16777216 : Int) < r.length := by omega
      clear h
      go_enter Tryz.func48, Tryz.ntmps48
      go_upto_region 5 with (fail)
      go_cut [5] (fun e wx => e = errV (ddo d (.write nm (jframe r))).2 ∧ Hid (JlTo w0 K w jb g (ddo d (.write nm (jframe r))).1 (N + 1) nm n false wx))
      case first =>
        go_region_with (first
          | (go_at_call 105; refine (HF.out _).mono ?_; rintro e w1 ⟨rfl, hb1⟩; have k0 := (hb1.cell (p := ⟨jb, 0, none⟩) hjl).trans c0; have k1 := (hb1.cell (p := ⟨jb, 1, none⟩) hjl).trans c1)
          | (go_at_call 31; refine (HW.out _ (below_undrew hb1)).mono ?_; rintro e w2 ⟨rfl, h2⟩; have H2 := Lib.hid h2; clear h2))
        all_goals
          go_wp2_with (fail)
          go_meet
          exact ⟨rfl, H2.out⟩
      case rest =>
        obtain ⟨rfl, hc⟩ := hcut
        obtain ⟨⟨A1, h1⟩, hk1⟩ := hc.out
        have hap : jappend d nm n false r = if (ddo d (.write nm (jframe r))).2 = 19 then ⟨(ddo d (.write nm (jframe r))).1, 19, false, n⟩
            else if (ddo d (.write nm (jframe r))).2 ≠ 0 then ⟨(ddo d (.write nm (jframe r))).1, (ddo d (.write nm (jframe r))).2, true, n⟩
            else if (ddo (ddo d (.write nm (jframe r))).1 (.sync nm)).2 ≠ 0 then ⟨(ddo (ddo d (.write nm (jframe r))).1 (.sync nm)).1, (ddo (ddo d (.write nm (jframe r))).1 (.sync nm)).2, true, n⟩
            else ⟨(ddo (ddo d (.write nm (jframe r))).1 (.sync nm)).1, 0, false, n + 1⟩ := by unfold jappend; rw [if_neg (by simp), if_neg hbig]
        clear hc HW HF HH c0 c1 c2 c3 hf2 hjl hfl
        obtain ⟨J, hJ⟩ : ∃ J, jappend d nm n false r = J := ⟨_, rfl⟩
        rw [hJ] at hap
        have HJ := Lib.hid hJ
        clear hJ
        generalize (ddo d (.write nm (jframe r))).2 = e1 at *
        generalize (ddo d (.write nm (jframe r))).1 = d1 at *
        by_cases h19 : e1 = 19
        · subst h19
          rw [if_pos rfl] at hap
          subst hap
          rw [errV_some (n := 19) (by omega)]
          have hh : JlTo w0 K w jb g d1 (N + 2) nm n false wc := ⟨⟨A1, h1.mono (by omega)⟩, hk1⟩
          have HH := Lib.hid hh
          have HI := Lib.hid (Is_errno 19 19 wc)
          clear h1 hk1 hh
          go_wp2_with (fail)
          refine HI.out.mono ?_
          rintro e w2 ⟨rfl, rfl⟩
          go_wp2
          go_ret
          rw [HJ.out]
          exact ⟨rfl, HH.out⟩
        · rw [if_neg h19] at hap
          by_cases h0 : e1 = 0
          · subst h0
            rw [if_neg (by simp)] at hap
            rw [errV_none]
            obtain ⟨c0, c1, c2, c3⟩ := h1.cells
            have HI := Lib.hid (Is_nil 19 wc)
            have HS : Hid (∀ W, Below wc.heap.size wc W → Calls Tryz.prog 15 #[.pointer (some ⟨g, 0, none⟩), strV nm] W fun e w' => e = .returned (errV (ddo d1 (.sync nm)).2) ∧ JlTo w0 K w jb g (ddo d1 (.sync nm)).1 (N + 2) nm n false w') := by
              show ∀ W, _ → _
              intro W hb
              refine (Sync_m (h1.below hb).m nm rfl (by omega) (by omega)).mono ?_
              rintro e w' ⟨he, ht⟩
              have h3 := (h1.below hb).op ht
              exact ⟨he, h3.1, fun k hk => ((h3.2 k hk).trans (hb.block k (h1.m.far k (List.mem_cons_of_mem _ hk)).1)).trans (hk1 k hk)⟩
            have H1 := Lib.hid h1
            have HK1 := Lib.hid hk1
            have hjl := h1.j.lt
            clear h1 hk1 h19
            go_wp2_with (fail)
            refine HI.out.mono ?_
            rintro e w2 ⟨rfl, rfl⟩
            go_upto_region 9 with (fail)
            go_cut [5] (fun e wx => e = errV (ddo d1 (.sync nm)).2 ∧ Hid (JlTo w0 K w jb g (ddo d1 (.sync nm)).1 (N + 2) nm n false wx))
            case first =>
              go_region_with (go_at_call 15; refine (HS.out _ ((Below.refl _ _).drew)).mono ?_; rintro e w3 ⟨rfl, h3⟩; have H3 := Lib.hid h3; clear h3)
              all_goals
                go_wp2_with (fail)
                go_meet
                exact ⟨rfl, H3.out⟩
            case rest =>
              obtain ⟨rfl, hc⟩ := hcut
              clear HS H1 HK1 c0 c1 c2 c3
              generalize (ddo d1 (.sync nm)).2 = e2 at *
              generalize (ddo d1 (.sync nm)).1 = d2 at *
              obtain ⟨⟨A2, h2⟩, hk2⟩ := hc.out
              by_cases h0 : e2 = 0
              · subst h0
                rw [if_neg (by simp)] at hap
                subst hap
                rw [errV_none]
                obtain ⟨c0, c1, c2, c3⟩ := h2.cells
                have hfr := h2.j.free 2
                have hcnt := h2.count (n + 1)
                have hs := jshut_any hcnt.1 0
                rw [errV_none, show ((n + 1 : Nat) : Int) = (n : Int) + 1 from by omega] at hs
                have HS := Lib.hid hs
                have HK := Lib.hid fun k hk => (hcnt.2 k hk).trans (hk2 k hk)
                clear h2 hk2 hcnt hc hs
                go_wp2_with (fail)
                refine HS.out.mono ?_
                rintro e w5 ⟨rfl, h5⟩
                have H5 := Lib.hid h5
                clear h5
                go_wp2
                go_ret
                rw [HJ.out]
                exact ⟨rfl, H5.out.1, fun k hk => (H5.out.2 k hk).trans (HK.out k hk)⟩
              · rw [if_pos h0] at hap
                subst hap
                rw [errV_some h0]
                have hs := jshut_any h2 e2
                rw [errV_some h0] at hs
                have HS := Lib.hid hs
                have HK := Lib.hid hk2
                have hb : (false || e2 != 0) = true := by simp [h0]
                rw [hb] at HS
                have HE0 := Lib.hid h0
                clear h2 hk2 hc hs hb h0
                go_wp2_with (fail)
                refine HS.out.mono ?_
                rintro e w5 ⟨rfl, h5⟩
                have H5 := Lib.hid h5
                clear h5
                go_wp2
                go_ret
                rw [HJ.out]
                exact ⟨by rw [errV_some HE0.out]; rfl, H5.out.1, fun k hk => (H5.out.2 k hk).trans (HK.out k hk)⟩
          · rw [if_pos h0] at hap
            subst hap
            rw [errV_some h0]
            have hi := Is_errno e1 19 wc
            rw [show ((e1 : Int) == 19) = false from by simp; omega] at hi
            have hs := jshut_any (h1.mono (Nat.le_succ (N + 1))) e1
            rw [errV_some h0] at hs
            have HI := Lib.hid hi
            have HS := Lib.hid hs
            have HK := Lib.hid hk1
            have hb : (false || e1 != 0) = true := by simp [h0]
            rw [hb] at HS
            have HE0 := Lib.hid h0
            clear h1 hk1 hi hs hb h0 h19
            go_wp2_with (fail)
            refine HI.out.mono ?_
            rintro e w2 ⟨rfl, rfl⟩
            go_wp2_with (fail)
            refine HS.out.mono ?_
            rintro e w5 ⟨rfl, h5⟩
            have H5 := Lib.hid h5
            clear h5
            go_wp2
            go_ret
            rw [HJ.out]
            exact ⟨by rw [errV_some HE0.out]; rfl, H5.out.1, fun k hk => (H5.out.2 k hk).trans (HK.out k hk)⟩
end Go.Proofs.YtfgpigblnkanpaaGreatDoor
