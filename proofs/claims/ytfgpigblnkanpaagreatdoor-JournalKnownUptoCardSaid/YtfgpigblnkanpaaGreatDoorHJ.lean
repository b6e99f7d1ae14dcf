/- A journal in memory over a disk made within the law; hand, shut, Append. The walks of the journal's cut, and of what it defers. -/
import Derived.Test.YtfgpigblnkanpaaGreatDoorHH
import Derived.Test.YtfgpigblnkanpaaGreatDoorHB
import Derived.Test.YtfgpigblnkanpaaGreatDoorGJ
import Derived.StillTailTactics
import Derived.Defers
namespace Go.Proofs.YtfgpigblnkanpaaGreatDoor
open Go.RowKit Go.Maps Go.Shelf
set_option linter.unusedVariables false

/-- A journal at jb over the disk at g; the blocks K are none of theirs. -/
structure Jl (w0 w : World) (K A : List Nat) (jb g : Nat) (d : Dk) (N : Nat) (nm : Nm) (n : Nat) (c : Bool) : Prop where
  m : Mine w0 w (jb :: K) A g d N
  j : Blk w jb [.pointer (some ⟨g, 0, none⟩), strV nm, .int .i64 n, .bool c] 149
  base : w0.heap.size ≤ jb
  out : jb ∉ K
  len : nm.length ≤ 200
def JlTo (w0 : World) (K : List Nat) (w : World) (jb g : Nat) (d : Dk) (N : Nat) (nm : Nm) (n : Nat) (c : Bool) (w' : World) : Prop :=
  (∃ A, Jl w0 w' K A jb g d N nm n c) ∧ ∀ k ∈ K, w'.heap[k]? = w.heap[k]?
section
variable {w0 w w' : World} {K A : List Nat} {jb g : Nat} {d d' : Dk} {N N' : Nat} {nm : Nm} {n : Nat} {c : Bool}
theorem Jl.below (h : Jl w0 w K A jb g d N nm n c) (hb : Below w.heap.size w w') : Jl w0 w' K A jb g d N nm n c := ⟨h.m.below hb, h.j.below hb h.j.lt, h.base, h.out, h.len⟩
theorem Jl.op (h : Jl w0 w K A jb g d N nm n c) (ht : MineTo w0 (jb :: K) w g d' N' w') : JlTo w0 K w jb g d' N' nm n c w' := by
  obtain ⟨⟨A', h1⟩, h2⟩ := ht
  exact ⟨⟨A', h1, h.j.same (h2 jb List.mem_cons_self), h.base, h.out, h.len⟩, fun k hk => h2 k (List.mem_cons_of_mem _ hk)⟩
theorem Jl.mono (h : Jl w0 w K A jb g d N nm n c) (hm : N ≤ N') : Jl w0 w K A jb g d N' nm n c := ⟨h.m.mono hm, h.j, h.base, h.out, h.len⟩
theorem Jl.cells (h : Jl w0 w K A jb g d N nm n c) : w.cell? ⟨jb, 0, none⟩ = some (.pointer (some ⟨g, 0, none⟩)) ∧ w.cell? ⟨jb, 1, none⟩ = some (strV nm) ∧ w.cell? ⟨jb, 2, none⟩ = some (.int .i64 n) ∧ w.cell? ⟨jb, 3, none⟩ = some (.bool c) := by
  have c0 := h.j.cell 0
  have c1 := h.j.cell 1
  have c2 := h.j.cell 2
  have c3 := h.j.cell 3
  simp only [List.getElem?_cons_zero, List.getElem?_cons_succ] at c0 c1 c2 c3
  exact ⟨c0, c1, c2, c3⟩
theorem Jl.count (h : Jl w0 w K A jb g d N nm n c) (k : Nat) : Jl w0 (w.setCell ⟨jb, 2, none⟩ (.int .i64 k)) K A jb g d N nm k c ∧ ∀ j ∈ K, (w.setCell ⟨jb, 2, none⟩ (.int .i64 k)).heap[j]? = w.heap[j]? :=
  ⟨⟨h.m.set ⟨jb, 2, none⟩ List.mem_cons_self h.base _, h.j.set 2 _, h.base, h.out, h.len⟩, fun j hj => heap_setCell_other _ _ _ _ (fun e => h.out (by have e' : j = jb := e; rw [← e']; exact hj))⟩
theorem Jl.close (h : Jl w0 w K A jb g d N nm n c) (b : Bool) : Jl w0 (w.setCell ⟨jb, 3, none⟩ (.bool b)) K A jb g d N nm n b ∧ ∀ j ∈ K, (w.setCell ⟨jb, 3, none⟩ (.bool b)).heap[j]? = w.heap[j]? :=
  ⟨⟨h.m.set ⟨jb, 3, none⟩ List.mem_cons_self h.base _, h.j.set 3 _, h.base, h.out, h.len⟩, fun j hj => heap_setCell_other _ _ _ _ (fun e => h.out (by have e' : j = jb := e; rw [← e']; exact hj))⟩
end
/-- The name of what is laid in a file's place. -/
def jhandN (nm : Nm) : Nm := nm ++ [126]
set_option maxRecDepth 100000 in
theorem jhand_any (w : World) (jb : Nat) (nm : Nm) (c1 : w.cell? ⟨jb, 1, none⟩ = some (strV nm)) (hl : nm.length ≤ 140737488351232) : Calls Tryz.prog 103 #[.pointer (some ⟨jb, 0, none⟩)] w fun e w' => e = .returned (strV (jhandN nm)) ∧ w = w' := by
  have hsz := str_size nm
  have happ := str_append nm [126]
  have e1 : ({ data := #[126] } : ByteArray) = str [126] := rfl
  have hs1 : (str [126]).size = 1 := rfl
  go_enter Tryz.func103, Tryz.ntmps103
  go_wp2_with (fail)
  go_ret
  exact ⟨rfl, rfl⟩
set_option maxRecDepth 100000 in
theorem jshut_any {w0 w : World} {K A : List Nat} {jb g : Nat} {d : Dk} {N : Nat} {nm : Nm} {n : Nat} {c : Bool} (h : Jl w0 w K A jb g d N nm n c) (no : Nat) : Calls Tryz.prog 104 #[.pointer (some ⟨jb, 0, none⟩), errV no] w fun e w' => e = .returned (errV no) ∧ JlTo w0 K w jb g d N nm n (c || no != 0) w' := by
  by_cases hno : no = 0
  · subst hno
    rw [errV_none]
    have HH := Lib.hid h
    clear h
    go_enter Tryz.func104, Tryz.ntmps104
    go_wp2_with (fail)
    go_ret
    exact ⟨rfl, ⟨A, by simpa using HH.out⟩, fun _ _ => rfl⟩
  · rw [errV_some hno]
    have hfr := h.j.free 3
    have c3 := h.cells.2.2.2
    have hc := h.close true
    have hb : (c || no != 0) = true := by simp [hno]
    rw [hb]
    have HC := Lib.hid hc
    clear h hc hno hb
    go_enter Tryz.func104, Tryz.ntmps104
    go_wp2_with (fail)
    go_ret
    exact ⟨rfl, ⟨A, HC.out.1⟩, HC.out.2⟩
set_option maxHeartbeats 1000000 in
set_option maxRecDepth 100000 in
theorem Is_nil (n : Int) (w : World) : Calls Tryz.prog 82 #[.nilIface, .iface 102 (.int .i64 n)] w fun e w' => e = .returned (.bool false) ∧ w = w' := by
  have hq : (binOp BinOp.eql 33 Value.nilIface (.iface 102 (.int .i64 n))).run Tryz.prog w = .ok (.bool false) w := by kernel_rfl
  go_enter Tryz.func82, Tryz.ntmps82
  go_wp2
  go_ret
  exact ⟨rfl, rfl⟩
/-! ### Append -/
/-- Behind Append: the disk, the error's number, is it closed, how many records. -/
structure Jr where
  d : Dk
  e : Nat
  c : Bool
  n : Nat
def jappend (d : Dk) (nm : Nm) (n : Nat) (c : Bool) (r : List UInt8) : Jr :=
  if c = true then ⟨d, 23, c, n⟩
  else if 16777216 < r.length then ⟨d, 5, c, n⟩
  else if (ddo d (.write nm (jframe r))).2 = 19 then ⟨(ddo d (.write nm (jframe r))).1, 19, c, n⟩
  else if (ddo d (.write nm (jframe r))).2 ≠ 0 then ⟨(ddo d (.write nm (jframe r))).1, (ddo d (.write nm (jframe r))).2, true, n⟩
  else if (ddo (ddo d (.write nm (jframe r))).1 (.sync nm)).2 ≠ 0 then ⟨(ddo (ddo d (.write nm (jframe r))).1 (.sync nm)).1, (ddo (ddo d (.write nm (jframe r))).1 (.sync nm)).2, true, n⟩
  else ⟨(ddo (ddo d (.write nm (jframe r))).1 (.sync nm)).1, 0, c, n + 1⟩
set_option maxHeartbeats 4000000 in
set_option maxRecDepth 100000 in
theorem jAppend_any {w0 w : World} {K A : List Nat} {jb g : Nat} {d : Dk} {N : Nat} {nm : Nm} {n : Nat} {c : Bool} (h : Jl w0 w K A jb g d N nm n c) (r : List UInt8) (hN : N + 2 < 4294967296) (hr : r.length ≤ 4294967296) (hn : n ≤ 4294967296) : Calls Tryz.prog 48 #[.pointer (some ⟨jb, 0, none⟩), strV r] w fun e w' => e = .returned (errV (jappend d nm n c r).e) ∧ JlTo w0 K w jb g (jappend d nm n c r).d (N + 2) nm (jappend d nm n c r).n (jappend d nm n c r).c w' := by
  obtain ⟨c0, c1, c2, c3⟩ := h.cells
  have hsz := str_size r
  have hf2 := h.j.free 2
  have hlen := h.len
  cases c with
  | true =>
    have hh : JlTo w0 K w jb g d (N + 2) nm n true w := ⟨⟨A, h.mono (by omega)⟩, fun _ _ => rfl⟩
    have HH := Lib.hid hh
    clear h hh
    go_enter Tryz.func48, Tryz.ntmps48
    go_wp2_with (fail)
    go_ret
    exact ⟨rfl, HH.out⟩
  | false =>
    by_cases hbig : 16777216 < r.length
    · have hh : JlTo w0 K w jb g d (N + 2) nm n false w := ⟨⟨A, h.mono (by omega)⟩, fun _ _ => rfl⟩
      have HH := Lib.hid hh
      have e1 : jappend d nm n false r = ⟨d, 5, false, n⟩ := by unfold jappend; rw [if_neg (by simp), if_pos hbig]
      rw [e1]
      clear h hh e1
      go_enter Tryz.func48, Tryz.ntmps48
      go_wp2_with (fail)
      go_ret
      exact ⟨rfl, HH.out⟩
    · have HF := Lib.hid fun W => jframe_any r W (by omega)
      have hfl : (jframe r).length ≤ 140737488355328 := by rw [jframe_len]; have := uintL_len (n := r.length + 1) (by omega); omega
      have HW : Hid (∀ W, Below w.heap.size w W → Calls Tryz.prog 31 #[.pointer (some ⟨g, 0, none⟩), strV nm, strV (jframe r)] W fun e w' => e = .returned (errV (ddo d (.write nm (jframe r))).2) ∧ JlTo w0 K w jb g (ddo d (.write nm (jframe r))).1 (N + 1) nm n false w') := by
        show ∀ W, _ → _
        intro W hb
        refine (Write_m (h.below hb).m nm (jframe r) rfl (by omega) (by omega) hfl).mono ?_
        rintro e w' ⟨he, ht⟩
        have h1 := (h.below hb).op ht
        exact ⟨he, h1.1, fun k hk => (h1.2 k hk).trans (hb.block k (h.m.far k (List.mem_cons_of_mem _ hk)).1)⟩
      have hjl := h.j.lt
      have HH := Lib.hid h
      have hq2 : ¬ (16777216 : Int) < r.length := by omega
      clear h
      go_enter Tryz.func48, Tryz.ntmps48
      go_upto_region 5 with (fail)
      go_cut [5] (fun e wx => e = errV (ddo d (.write nm (jframe r))).2 ∧ Hid (JlTo w0 K w jb g (ddo d (.write nm (jframe r))).1 (N + 1) nm n false wx))
      case first =>
        go_region_with (first
          | (go_at_call 105; refine (HF.out _).mono ?_; rintro e w1 ⟨rfl, hb1⟩; have k0 := (hb1.cell (p := ⟨jb, 0, none⟩) hjl).trans c0; have k1 := (hb1.cell (p := ⟨jb, 1, none⟩) hjl).trans c1)
          | (go_at_call 31; refine (HW.out _ (below_undrew hb1)).mono ?_; rintro e w2 ⟨rfl, h2⟩; have H2 := Lib.hid h2; clear h2))
        all_goals
          go_wp2_with (fail)
          go_meet
          exact ⟨rfl, H2.out⟩
      case rest =>
        obtain ⟨rfl, hc⟩ := hcut
        obtain ⟨⟨A1, h1⟩, hk1⟩ := hc.out
        have hap : jappend d nm n false r = if (ddo d (.write nm (jframe r))).2 = 19 then ⟨(ddo d (.write nm (jframe r))).1, 19, false, n⟩
            else if (ddo d (.write nm (jframe r))).2 ≠ 0 then ⟨(ddo d (.write nm (jframe r))).1, (ddo d (.write nm (jframe r))).2, true, n⟩
            else if (ddo (ddo d (.write nm (jframe r))).1 (.sync nm)).2 ≠ 0 then ⟨(ddo (ddo d (.write nm (jframe r))).1 (.sync nm)).1, (ddo (ddo d (.write nm (jframe r))).1 (.sync nm)).2, true, n⟩
            else ⟨(ddo (ddo d (.write nm (jframe r))).1 (.sync nm)).1, 0, false, n + 1⟩ := by unfold jappend; rw [if_neg (by simp), if_neg hbig]
        clear hc HW HF HH c0 c1 c2 c3 hf2 hjl hfl
        obtain ⟨J, hJ⟩ : ∃ J, jappend d nm n false r = J := ⟨_, rfl⟩
        rw [hJ] at hap
        have HJ := Lib.hid hJ
        clear hJ
        generalize (ddo d (.write nm (jframe r))).2 = e1 at *
        generalize (ddo d (.write nm (jframe r))).1 = d1 at *
        by_cases h19 : e1 = 19
        · subst h19
          rw [if_pos rfl] at hap
          subst hap
          rw [errV_some (n := 19) (by omega)]
          have hh : JlTo w0 K w jb g d1 (N + 2) nm n false wc := ⟨⟨A1, h1.mono (by omega)⟩, hk1⟩
          have HH := Lib.hid hh
          have HI := Lib.hid (Is_errno 19 19 wc)
          clear h1 hk1 hh
          go_wp2_with (fail)
          refine HI.out.mono ?_
          rintro e w2 ⟨rfl, rfl⟩
          go_wp2
          go_ret
          rw [HJ.out]
          exact ⟨rfl, HH.out⟩
        · rw [if_neg h19] at hap
          by_cases h0 : e1 = 0
          · subst h0
            rw [if_neg (by simp)] at hap
            rw [errV_none]
            obtain ⟨c0, c1, c2, c3⟩ := h1.cells
            have HI := Lib.hid (Is_nil 19 wc)
            have HS : Hid (∀ W, Below wc.heap.size wc W → Calls Tryz.prog 15 #[.pointer (some ⟨g, 0, none⟩), strV nm] W fun e w' => e = .returned (errV (ddo d1 (.sync nm)).2) ∧ JlTo w0 K w jb g (ddo d1 (.sync nm)).1 (N + 2) nm n false w') := by
              show ∀ W, _ → _
              intro W hb
              refine (Sync_m (h1.below hb).m nm rfl (by omega) (by omega)).mono ?_
              rintro e w' ⟨he, ht⟩
              have h3 := (h1.below hb).op ht
              exact ⟨he, h3.1, fun k hk => ((h3.2 k hk).trans (hb.block k (h1.m.far k (List.mem_cons_of_mem _ hk)).1)).trans (hk1 k hk)⟩
            have H1 := Lib.hid h1
            have HK1 := Lib.hid hk1
            have hjl := h1.j.lt
            clear h1 hk1 h19
            go_wp2_with (fail)
            refine HI.out.mono ?_
            rintro e w2 ⟨rfl, rfl⟩
            go_upto_region 9 with (fail)
            go_cut [5] (fun e wx => e = errV (ddo d1 (.sync nm)).2 ∧ Hid (JlTo w0 K w jb g (ddo d1 (.sync nm)).1 (N + 2) nm n false wx))
            case first =>
              go_region_with (go_at_call 15; refine (HS.out _ ((Below.refl _ _).drew)).mono ?_; rintro e w3 ⟨rfl, h3⟩; have H3 := Lib.hid h3; clear h3)
              all_goals
                go_wp2_with (fail)
                go_meet
                exact ⟨rfl, H3.out⟩
            case rest =>
              obtain ⟨rfl, hc⟩ := hcut
              clear HS H1 HK1 c0 c1 c2 c3
              generalize (ddo d1 (.sync nm)).2 = e2 at *
              generalize (ddo d1 (.sync nm)).1 = d2 at *
              obtain ⟨⟨A2, h2⟩, hk2⟩ := hc.out
              by_cases h0 : e2 = 0
              · subst h0
                rw [if_neg (by simp)] at hap
                subst hap
                rw [errV_none]
                obtain ⟨c0, c1, c2, c3⟩ := h2.cells
                have hfr := h2.j.free 2
                have hcnt := h2.count (n + 1)
                have hs := jshut_any hcnt.1 0
                rw [errV_none, show ((n + 1 : Nat) : Int) = (n : Int) + 1 from by omega] at hs
                have HS := Lib.hid hs
                have HK := Lib.hid fun k hk => (hcnt.2 k hk).trans (hk2 k hk)
                clear h2 hk2 hcnt hc hs
                go_wp2_with (fail)
                refine HS.out.mono ?_
                rintro e w5 ⟨rfl, h5⟩
                have H5 := Lib.hid h5
                clear h5
                go_wp2
                go_ret
                rw [HJ.out]
                exact ⟨rfl, H5.out.1, fun k hk => (H5.out.2 k hk).trans (HK.out k hk)⟩
              · rw [if_pos h0] at hap
                subst hap
                rw [errV_some h0]
                have hs := jshut_any h2 e2
                rw [errV_some h0] at hs
                have HS := Lib.hid hs
                have HK := Lib.hid hk2
                have hb : (false || e2 != 0) = true := by simp [h0]
                rw [hb] at HS
                have HE0 := Lib.hid h0
                clear h2 hk2 hc hs hb h0
                go_wp2_with (fail)
                refine HS.out.mono ?_
                rintro e w5 ⟨rfl, h5⟩
                have H5 := Lib.hid h5
                clear h5
                go_wp2
                go_ret
                rw [HJ.out]
                exact ⟨by rw [errV_some HE0.out]; rfl, H5.out.1, fun k hk => (H5.out.2 k hk).trans (HK.out k hk)⟩
          · rw [if_pos h0] at hap
            subst hap
            rw [errV_some h0]
            have hi := Is_errno e1 19 wc
            rw [show ((e1 : Int) == 19) = false from by simp; omega] at hi
            have hs := jshut_any (h1.mono (Nat.le_succ (N + 1))) e1
            rw [errV_some h0] at hs
            have HI := Lib.hid hi
            have HS := Lib.hid hs
            have HK := Lib.hid hk1
            have hb : (false || e1 != 0) = true := by simp [h0]
            rw [hb] at HS
            have HE0 := Lib.hid h0
            clear h1 hk1 hi hs hb h0 h19
            go_wp2_with (fail)
            refine HI.out.mono ?_
            rintro e w2 ⟨rfl, rfl⟩
            go_wp2_with (fail)
            refine HS.out.mono ?_
            rintro e w5 ⟨rfl, h5⟩
            have H5 := Lib.hid h5
            clear h5
            go_wp2
            go_ret
            rw [HJ.out]
            exact ⟨by rw [errV_some HE0.out]; rfl, H5.out.1, fun k hk => (H5.out.2 k hk).trans (HK.out k hk)⟩
end Go.Proofs.YtfgpigblnkanpaaGreatDoor

namespace Go.Proofs.YtfgpigblnkanpaaGreatDoor
open Go.RowKit Go.Maps Go.Shelf
set_option linter.unusedVariables false

section
variable {w0 w w1 w2 W : World} {K A : List Nat} {jb g : Nat} {d d' : Dk} {N N' : Nat} {nm : Nm} {n : Nat} {c : Bool}
theorem JlTo.after (hk : ∀ k ∈ K, w1.heap[k]? = w.heap[k]?) (h : JlTo w0 K w1 jb g d N nm n c w2) : JlTo w0 K w jb g d N nm n c w2 := ⟨h.1, fun k h1 => (h.2 k h1).trans (hk k h1)⟩
theorem Jl.same (h : Jl w0 w K A jb g d N nm n c) (hb : Below w.heap.size w W) : ∀ k ∈ K, W.heap[k]? = w.heap[k]? := fun k hk => hb.block k (h.m.far k (List.mem_cons_of_mem _ hk)).1
theorem Jl.more (h : Jl w0 w K A jb g d N nm n c) (ht : MineTo w0 (jb :: K) W g d' N' w2) (hb : Below w.heap.size w W) : JlTo w0 K w jb g d' N' nm n c w2 := ((h.below hb).op ht).after (h.same hb)
variable (h : Jl w0 w K A jb g d N nm n c) (hb : Below w.heap.size w W) (hN : N + 1 < 4294967296)
include h hb hN
theorem jl_create (m : Nm) (hm : m.length ≤ 9223372036854775807) : Calls Tryz.prog 30 #[.pointer (some ⟨g, 0, none⟩), strV m] W fun e w' => e = .returned (errV (ddo d (.create m)).2) ∧ JlTo w0 K w jb g (ddo d (.create m)).1 (N + 1) nm n c w' :=
  (Create_m (h.below hb).m m rfl hN hm).mono fun e w' hp => ⟨hp.1, h.more hp.2 hb⟩
theorem jl_sync (m : Nm) (hm : m.length ≤ 9223372036854775807) : Calls Tryz.prog 15 #[.pointer (some ⟨g, 0, none⟩), strV m] W fun e w' => e = .returned (errV (ddo d (.sync m)).2) ∧ JlTo w0 K w jb g (ddo d (.sync m)).1 (N + 1) nm n c w' :=
  (Sync_m (h.below hb).m m rfl hN hm).mono fun e w' hp => ⟨hp.1, h.more hp.2 hb⟩
theorem jl_remove (m : Nm) (hm : m.length ≤ 9223372036854775807) : Calls Tryz.prog 34 #[.pointer (some ⟨g, 0, none⟩), strV m] W fun e w' => e = .returned (errV (ddo d (.remove m)).2) ∧ JlTo w0 K w jb g (ddo d (.remove m)).1 (N + 1) nm n c w' :=
  (Remove_m (h.below hb).m m rfl hN hm).mono fun e w' hp => ⟨hp.1, h.more hp.2 hb⟩
theorem jl_write (m : Nm) (s : List UInt8) (hm : m.length ≤ 9223372036854775807) (hs : s.length ≤ 140737488355328) : Calls Tryz.prog 31 #[.pointer (some ⟨g, 0, none⟩), strV m, strV s] W fun e w' => e = .returned (errV (ddo d (.write m s)).2) ∧ JlTo w0 K w jb g (ddo d (.write m s)).1 (N + 1) nm n c w' :=
  (Write_m (h.below hb).m m s rfl hN hm hs).mono fun e w' hp => ⟨hp.1, h.more hp.2 hb⟩
theorem jl_rename (o m : Nm) (ho : o.length ≤ 9223372036854775807) (hm : m.length ≤ 9223372036854775807) : Calls Tryz.prog 33 #[.pointer (some ⟨g, 0, none⟩), strV o, strV m] W fun e w' => e = .returned (errV (ddo d (.rename o m)).2) ∧ JlTo w0 K w jb g (ddo d (.rename o m)).1 (N + 1) nm n c w' :=
  (Rename_m (h.below hb).m o m rfl hN ho hm).mono fun e w' hp => ⟨hp.1, h.more hp.2 hb⟩
theorem jl_flush : Calls Tryz.prog 16 #[.pointer (some ⟨g, 0, none⟩)] W fun e w' => e = .returned (errV (ddo d .flush).2) ∧ JlTo w0 K w jb g (ddo d .flush).1 (N + 1) nm n c w' :=
  (Flush_m (h.below hb).m rfl hN).mono fun e w' hp => ⟨hp.1, h.more hp.2 hb⟩
end
/-- What is left where there was no room: the hand is taken away. -/
def jclean (d : Dk) (nm : Nm) (no : Nat) : Dk := if no = 19 then (ddo (ddo d (.remove (jhandN nm))).1 .flush).1 else d
theorem jhandN_len {nm : Nm} (h : nm.length ≤ 200) : (jhandN nm).length ≤ 201 := by unfold jhandN; simp; omega
set_option maxHeartbeats 2000000 in
set_option maxRecDepth 100000 in
theorem jcutD_any {w0 w : World} {K A : List Nat} {jb g : Nat} {d : Dk} {N : Nat} {nm : Nm} {n : Nat} {c : Bool} {be bx : Nat} (h : Jl w0 w (be :: bx :: K) A jb g d N nm n c) (no : Nat) (u : FrameMode) (hbe : Blk w be [errV no] 33) (hbx : Blk w bx [.pointer (some ⟨jb, 0, none⟩)] 77) (hN : N + 2 < 4294967296) :
    CallsD Tryz.prog 159 #[.pointer (some ⟨be, 0, none⟩), .pointer (some ⟨bx, 0, none⟩)] u w fun e u' w' => u' = u ∧ (e = .returned (.tuple #[]) ∧ JlTo w0 (be :: bx :: K) w jb g (jclean d nm no) (N + 2) nm n c w') := by
  have b0 := hbe.cell 0
  have x0 := hbx.cell 0
  simp only [List.getElem?_cons_zero] at b0 x0
  obtain ⟨c0, c1, c2, c3⟩ := h.cells
  have hhl := jhandN_len h.len
  by_cases h19 : no = 19
  · subst h19
    rw [errV_some (n := 19) (by omega)] at b0
    have e1 : jclean d nm 19 = (ddo (ddo d (.remove (jhandN nm))).1 .flush).1 := by unfold jclean; rw [if_pos rfl]
    rw [e1]
    have HI := Lib.hid (Is_errno 19 19 w)
    have HR := Lib.hid (jl_remove h (Below.refl _ _).drew (by omega) (jhandN nm) (by omega))
    have HA : Calls Tryz.prog 103 #[.pointer (some ⟨jb, 0, none⟩)] w.drew fun e w' => e = .returned (strV (jhandN nm)) ∧ w' = w.drew := (jhand_any w.drew jb nm c1 (by have := h.len; omega)).mono fun e w' hp => ⟨hp.1, hp.2.symm⟩
    have HBX := Lib.hid hbx
    clear h e1 hbe hbx
    go_enter_d Tryz.func159, Tryz.ntmps159
    go_wp2_with (fail)
    refine HI.out.mono ?_
    rintro e w1 ⟨rfl, rfl⟩
    go_upto_region 1 with (fail)
    refine wp_region_still_tail 6 (by kernel_rfl) (by kernel_rfl) ?_
    simp only [List.take_succ_cons, List.take_zero, List.drop_succ_cons, List.drop_zero]
    repeat still_step
    still_call HA
    refine wpStill_nil ?_
    go_wp2_with (fail)
    refine HR.out.mono ?_
    rintro e w3 ⟨rfl, ⟨A3, h3⟩, hk3⟩
    have hbx3 := HBX.out.same (hk3 _ (by simp))
    have x0 := hbx3.cell 0
    simp only [List.getElem?_cons_zero] at x0
    obtain ⟨c0, c1, c2, c3⟩ := h3.cells
    have HF := Lib.hid (jl_flush h3 (Below.refl _ _) (by omega))
    have HK := Lib.hid hk3
    clear h3 hk3 hbx3 HA HR
    go_wp2_with (fail)
    refine HF.out.mono ?_
    rintro e w4 ⟨rfl, h4⟩
    have H4 := Lib.hid (h4.after HK.out)
    clear h4
    go_wp2
    go_end0
    exact ⟨rfl, H4.out⟩
  · have e1 : jclean d nm no = d := by unfold jclean; rw [if_neg h19]
    rw [e1]
    by_cases h0 : no = 0
    · subst h0
      rw [errV_none] at b0
      have HI := Lib.hid (Is_nil 19 w)
      have hh : JlTo w0 (be :: bx :: K) w jb g d (N + 2) nm n c w := ⟨⟨A, h.mono (by omega)⟩, fun _ _ => rfl⟩
      have HH := Lib.hid hh
      clear h hh hbe hbx e1
      go_enter_d Tryz.func159, Tryz.ntmps159
      go_wp2_with (fail)
      refine HI.out.mono ?_
      rintro e w1 ⟨rfl, rfl⟩
      go_wp2
      go_end0
      exact ⟨rfl, HH.out⟩
    · rw [errV_some h0] at b0
      have hi := Is_errno no 19 w
      rw [show ((no : Int) == 19) = false from by simp; omega] at hi
      have HI := Lib.hid hi
      have hh : JlTo w0 (be :: bx :: K) w jb g d (N + 2) nm n c w := ⟨⟨A, h.mono (by omega)⟩, fun _ _ => rfl⟩
      have HH := Lib.hid hh
      clear h hh hbe hbx e1 hi h0 h19
      go_enter_d Tryz.func159, Tryz.ntmps159
      go_wp2_with (fail)
      refine HI.out.mono ?_
      rintro e w1 ⟨rfl, rfl⟩
      go_wp2
      go_end0
      exact ⟨rfl, HH.out⟩
/-! ### cut -/
def jcut (d : Dk) (nm : Nm) (s : List UInt8) : Dk × Nat :=
  if (ddo d (.create (jhandN nm))).2 ≠ 0 then ddo d (.create (jhandN nm))
  else if (ddo (ddo d (.create (jhandN nm))).1 (.write (jhandN nm) s)).2 ≠ 0 then
    (jclean (ddo (ddo d (.create (jhandN nm))).1 (.write (jhandN nm) s)).1 nm (ddo (ddo d (.create (jhandN nm))).1 (.write (jhandN nm) s)).2, (ddo (ddo d (.create (jhandN nm))).1 (.write (jhandN nm) s)).2)
  else if (ddo (ddo (ddo d (.create (jhandN nm))).1 (.write (jhandN nm) s)).1 (.sync (jhandN nm))).2 ≠ 0 then
    (jclean (ddo (ddo (ddo d (.create (jhandN nm))).1 (.write (jhandN nm) s)).1 (.sync (jhandN nm))).1 nm (ddo (ddo (ddo d (.create (jhandN nm))).1 (.write (jhandN nm) s)).1 (.sync (jhandN nm))).2, (ddo (ddo (ddo d (.create (jhandN nm))).1 (.write (jhandN nm) s)).1 (.sync (jhandN nm))).2)
  else (jclean (ddo (ddo (ddo (ddo d (.create (jhandN nm))).1 (.write (jhandN nm) s)).1 (.sync (jhandN nm))).1 (.rename (jhandN nm) nm)).1 nm (ddo (ddo (ddo (ddo d (.create (jhandN nm))).1 (.write (jhandN nm) s)).1 (.sync (jhandN nm))).1 (.rename (jhandN nm) nm)).2, (ddo (ddo (ddo (ddo d (.create (jhandN nm))).1 (.write (jhandN nm) s)).1 (.sync (jhandN nm))).1 (.rename (jhandN nm) nm)).2)
/-- While a cut goes on. -/
def Cu (w0 w wr : World) (K : List Nat) (be bx jb g : Nat) (d : Dk) (N : Nat) (nm : Nm) (n : Nat) (c : Bool) (ev : Value) : Prop :=
  ∃ A, Jl w0 wr (be :: bx :: K) A jb g d N nm n c ∧ Blk wr be [ev] 33 ∧ Blk wr bx [.pointer (some ⟨jb, 0, none⟩)] 77 ∧ (∀ k ∈ K, wr.heap[k]? = w.heap[k]?) ∧ w0.heap.size ≤ be ∧ be ∉ K ∧ be ≠ bx ∧ be ≠ jb
section
variable {w0 w wr w' : World} {K A : List Nat} {be bx jb g : Nat} {d d' : Dk} {N N' : Nat} {nm : Nm} {n : Nat} {c : Bool} {ev : Value}
theorem Cu.start (h : Jl w0 w K A jb g d N nm n c) : Cu w0 w ((w.alloc (.cells #[.pointer (some ⟨jb, 0, none⟩)] 77)).alloc (.cells #[.nilIface] 33)) K (w.heap.size + 1) w.heap.size jb g d N nm n c .nilIface := by
  have hb : Below w.heap.size w ((w.alloc (.cells #[.pointer (some ⟨jb, 0, none⟩)] 77)).alloc (.cells #[.nilIface] 33)) := ((Below.refl _ w).alloc (Nat.le_refl _) _).alloc (by simp) _
  have h1 := Blk.new w [.pointer (some ⟨jb, 0, none⟩)] 77
  have h2 := Blk.new (w.alloc (.cells #[.pointer (some ⟨jb, 0, none⟩)] 77)) [.nilIface] 33
  rw [World.size_alloc] at h2
  have hj := h.j.lt
  have hK : ∀ k ∈ K, k < w.heap.size := fun k hk => (h.m.far k (List.mem_cons_of_mem _ hk)).1
  have hsz : ((w.alloc (.cells #[.pointer (some ⟨jb, 0, none⟩)] 77)).alloc (.cells #[.nilIface] 33)).heap.size = w.heap.size + 2 := by simp
  have h3 := h.below hb
  refine ⟨A, ⟨⟨h3.m.hd, h3.m.base, h3.m.bel, fun k hk => ?_⟩, h3.j, h3.base, ?_, h3.len⟩, h2, h1.alloc _, h.same hb, by have := h.m.bel.size; omega, fun hm => by have := hK _ hm; omega, by omega, by omega⟩
  · simp only [List.mem_cons] at hk
    rcases hk with rfl | rfl | rfl | hk
    · exact h3.m.far _ List.mem_cons_self
    · exact ⟨by omega, fun hm => by have := h.m.hd.lt _ hm; omega⟩
    · exact ⟨by omega, fun hm => by have := h.m.hd.lt _ hm; omega⟩
    · exact h3.m.far k (List.mem_cons_of_mem _ hk)
  · simp only [List.mem_cons, not_or]
    exact ⟨by omega, by omega, h.out⟩
theorem Cu.op (h : Cu w0 w wr K be bx jb g d N nm n c ev) (ht : JlTo w0 (be :: bx :: K) wr jb g d' N' nm n c w') : Cu w0 w w' K be bx jb g d' N' nm n c ev := by
  obtain ⟨A, h1, h2, h3, h4, h5⟩ := h
  obtain ⟨⟨A', h6⟩, h7⟩ := ht
  exact ⟨A', h6, h2.same (h7 _ (by simp)), h3.same (h7 _ (by simp)), fun k hk => (h7 k (by simp [hk])).trans (h4 k hk), h5⟩
theorem Cu.set (h : Cu w0 w wr K be bx jb g d N nm n c ev) (v : Value) : Cu w0 w (wr.setCell ⟨be, 0, none⟩ v) K be bx jb g d N nm n c v := by
  obtain ⟨A, h1, h2, h3, h4, h5, h6, h7, h8⟩ := h
  have hs : ∀ j, j ≠ be → (wr.setCell ⟨be, 0, none⟩ v).heap[j]? = wr.heap[j]? := fun j hj => heap_setCell_other _ _ _ _ hj
  exact ⟨A, ⟨h1.m.set ⟨be, 0, none⟩ (by simp) h5 _, h1.j.same (hs _ h8.symm), h1.base, h1.out, h1.len⟩, h2.set 0 _, h3.same (hs _ h7.symm), fun k hk => (hs k (fun e => h6 (e ▸ hk))).trans (h4 k hk), h5, h6, h7, h8⟩
theorem Cu.below (h : Cu w0 w wr K be bx jb g d N nm n c ev) (hb : Below wr.heap.size wr w') : Cu w0 w w' K be bx jb g d N nm n c ev := by
  obtain ⟨A, h1, h2, h3, h4, h5⟩ := h
  exact ⟨A, h1.below hb, h2.below hb h2.lt, h3.below hb h3.lt, fun k hk => (h1.same hb k (by simp [hk])).trans (h4 k hk), h5⟩
theorem Cu.done (h : Cu w0 w wr K be bx jb g d N nm n c ev) (hN : N ≤ N') : JlTo w0 K w jb g d N' nm n c wr := by
  obtain ⟨A, h1, h2, h3, h4, h5⟩ := h
  exact ⟨⟨A, ⟨(h1.m.less (fun k hk => by simp only [List.mem_cons] at hk ⊢; rcases hk with h | h <;> simp [h])).mono hN, h1.j, h1.base, fun hm => h1.out (by simp [hm]), h1.len⟩⟩, h4⟩
theorem Cu.cells (h : Cu w0 w wr K be bx jb g d N nm n c ev) : wr.cell? ⟨be, 0, none⟩ = some ev ∧ wr.cell? ⟨bx, 0, none⟩ = some (.pointer (some ⟨jb, 0, none⟩)) ∧ wr.cell? ⟨jb, 0, none⟩ = some (.pointer (some ⟨g, 0, none⟩)) ∧ wr.cell? ⟨jb, 1, none⟩ = some (strV nm) ∧ wr.frozen? ⟨be, 0, none⟩ = false := by
  obtain ⟨A, h1, h2, h3, h4, h5⟩ := h
  have b0 := h2.cell 0
  have x0 := h3.cell 0
  simp only [List.getElem?_cons_zero] at b0 x0
  obtain ⟨c0, c1, -, -⟩ := h1.cells
  exact ⟨b0, x0, c0, c1, h2.free 0⟩
theorem Cu.hand (h : Cu w0 w wr K be bx jb g d N nm n c ev) : Calls Tryz.prog 103 #[.pointer (some ⟨jb, 0, none⟩)] wr.drew fun e w' => e = .returned (strV (jhandN nm)) ∧ w' = wr.drew := by
  have hc := h.cells.2.2.2.1
  obtain ⟨A, h1, -⟩ := h
  exact (jhand_any wr.drew jb nm hc (by have := h1.len; omega)).mono fun e w' hp => ⟨hp.1, hp.2.symm⟩
end
theorem jcut_results {W : World} {tm : Array Value} {p : Nat} {v : Value} (h4 : tm[4]? = some (.pointer (some ⟨p, 0, none⟩))) (c0 : W.cell? ⟨p, 0, none⟩ = some v) : (results Tryz.f135 tm).run Tryz.prog W = .ok v W := by
  simp [results, Tryz.results135, go_sem, c0, h4]
theorem Cu.door {w0 w wr : World} {K : List Nat} {be bx jb g : Nat} {d : Dk} {N M : Nat} {nm : Nm} {n : Nat} {c : Bool} {no : Nat} (h : Cu w0 w wr K be bx jb g d N nm n c (errV no)) (hN : N + 2 < 4294967296) (hM : N + 2 ≤ M) :
    CallsD Tryz.prog 159 #[.pointer (some ⟨be, 0, none⟩), .pointer (some ⟨bx, 0, none⟩)] .returning wr fun e u' w' => u' = .returning ∧ e = .returned (.tuple #[]) ∧ w'.cell? ⟨be, 0, none⟩ = some (errV no) ∧ JlTo w0 K w jb g (jclean d nm no) M nm n c w' := by
  have h' := h
  obtain ⟨A, h1, h2, h3, h4⟩ := h'
  exact (jcutD_any h1 no .returning h2 h3 hN).mono fun e u' w' ⟨a, b, ht⟩ => ⟨a, b, (h.op ht).cells.1, (h.op ht).done hM⟩
set_option maxHeartbeats 4000000 in
set_option maxRecDepth 100000 in
theorem jcut_any {w0 w : World} {K A : List Nat} {jb g : Nat} {d : Dk} {N : Nat} {nm : Nm} {n : Nat} {c : Bool} (h : Jl w0 w K A jb g d N nm n c) (s : List UInt8) (hs : s.length ≤ 140737488355328) (hN : N + 6 < 4294967296) :
    Calls Tryz.prog 135 #[.pointer (some ⟨jb, 0, none⟩), strV s] w fun e w' => e = .returned (errV (jcut d nm s).2) ∧ JlTo w0 K w jb g (jcut d nm s).1 (N + 6) nm n c w' := by
  have hmf : ∀ (fn : Fn) (first cap : Array Value) (w : World), (Instr.makeFunc fn first cap).run Tryz.prog w = .ok (.func fn first cap) w := fun _ _ _ _ => rfl
  have hhl := jhandN_len h.len
  have hlen := h.len
  have hc := Cu.start h
  obtain ⟨J, hJ⟩ : ∃ J, jcut d nm s = J := ⟨_, rfl⟩
  have hj := hJ
  unfold jcut at hj
  rw [show ddo d (.create (jhandN nm)) = ((ddo d (.create (jhandN nm))).1, (ddo d (.create (jhandN nm))).2) from rfl] at hj
  simp only at hj
  have HJ := Lib.hid hJ
  rw [hJ]
  clear h hJ
  obtain ⟨b0, x0, c0, c1, hfr⟩ := hc.cells
  have HH := hc.hand
  have HC := Lib.hid hc
  obtain ⟨A1, h1, -⟩ := hc
  have HO := Lib.hid (jl_create h1 (Below.refl _ _).drew (by omega) (jhandN nm) (by omega))
  clear h1
  go_enter_defers Tryz.func135, Tryz.ntmps135
  go_upto_region 1 with (fail)
  generalize (w.alloc (.cells #[.pointer (some ⟨jb, 0, none⟩)] 77)).alloc (.cells #[.nilIface] 33) = W1 at *
  refine wp_region_still_tail 6 (by kernel_rfl) (by kernel_rfl) ?_
  simp only [List.take_succ_cons, List.take_zero, List.drop_succ_cons, List.drop_zero]
  repeat still_step
  still_call HH
  refine wpStill_nil ?_
  go_wp2_with (fail)
  refine HO.out.mono ?_
  rintro e w1 ⟨rfl, ht1⟩
  have HC1 := Lib.hid (HC.out.op ht1)
  clear ht1 HO HH b0 x0 c0 c1 hfr
  generalize (ddo d (.create (jhandN nm))).2 = e1 at *
  generalize (ddo d (.create (jhandN nm))).1 = d1 at *
  by_cases z1 : e1 = 0
  · subst z1
    rw [if_neg (by simp)] at hj
    rw [errV_none]
    obtain ⟨b0, x0, c0, c1, hfr⟩ := HC1.out.cells
    have HH := HC1.out.hand
    have ho : Calls Tryz.prog 31 #[.pointer (some ⟨g, 0, none⟩), strV (jhandN nm), strV s] w1.drew fun e w' => e = .returned (errV (ddo d1 (.write (jhandN nm) s)).2) ∧ JlTo w0 ((w.heap.size + 1) :: w.heap.size :: K) w1 jb g (ddo d1 (.write (jhandN nm) s)).1 (N + 1 + 1) nm n c w' := by
      obtain ⟨A2, h2, -⟩ := HC1.out
      exact jl_write h2 (Below.refl _ _).drew (by omega) (jhandN nm) s (by omega) hs
    have HO := Lib.hid ho
    clear ho
    go_upto_region 5 with (fail)
    refine wp_region_still_tail 7 (by kernel_rfl) (by kernel_rfl) ?_
    simp only [List.take_succ_cons, List.take_zero, List.drop_succ_cons, List.drop_zero]
    repeat still_step
    still_call HH
    repeat still_step
    refine wpStill_nil ?_
    go_wp2_with (fail)
    refine HO.out.mono ?_
    rintro e w2 ⟨rfl, ht2⟩
    have HC2 := Lib.hid (HC1.out.op ht2)
    clear ht2 HO HH b0 x0 c0 c1 hfr HC HC1
    generalize (ddo d1 (.write (jhandN nm) s)).2 = e2 at *
    generalize (ddo d1 (.write (jhandN nm) s)).1 = d2 at *
    by_cases z2 : e2 = 0
    · subst z2
      rw [if_neg (by simp)] at hj
      rw [errV_none]
      obtain ⟨b0, x0, c0, c1, hfr⟩ := HC2.out.cells
      have HH := HC2.out.hand
      have ho : Calls Tryz.prog 15 #[.pointer (some ⟨g, 0, none⟩), strV (jhandN nm)] w2.drew fun e w' => e = .returned (errV (ddo d2 (.sync (jhandN nm))).2) ∧ JlTo w0 ((w.heap.size + 1) :: w.heap.size :: K) w2 jb g (ddo d2 (.sync (jhandN nm))).1 (N + 1 + 1 + 1) nm n c w' := by
        obtain ⟨A2, h2, -⟩ := HC2.out
        exact jl_sync h2 (Below.refl _ _).drew (by omega) (jhandN nm) (by omega)
      have HO := Lib.hid ho
      clear ho
      go_upto_region 8 with (fail)
      refine wp_region_still_tail 6 (by kernel_rfl) (by kernel_rfl) ?_
      simp only [List.take_succ_cons, List.take_zero, List.drop_succ_cons, List.drop_zero]
      repeat still_step
      still_call HH
      refine wpStill_nil ?_
      go_wp2_with (fail)
      refine HO.out.mono ?_
      rintro e w3 ⟨rfl, ht3⟩
      have HC3 := Lib.hid (HC2.out.op ht3)
      clear ht3 HO HH b0 x0 c0 c1 hfr HC2
      generalize (ddo d2 (.sync (jhandN nm))).2 = e3 at *
      generalize (ddo d2 (.sync (jhandN nm))).1 = d3 at *
      by_cases z3 : e3 = 0
      · subst z3
        rw [if_neg (by simp)] at hj
        rw [errV_none]
        obtain ⟨b0, x0, c0, c1, hfr⟩ := HC3.out.cells
        have HH := HC3.out.hand
        have ho : Calls Tryz.prog 33 #[.pointer (some ⟨g, 0, none⟩), strV (jhandN nm), strV nm] w3.drew fun e w' => e = .returned (errV (ddo d3 (.rename (jhandN nm) nm)).2) ∧ JlTo w0 ((w.heap.size + 1) :: w.heap.size :: K) w3 jb g (ddo d3 (.rename (jhandN nm) nm)).1 (N + 1 + 1 + 1 + 1) nm n c w' := by
          obtain ⟨A2, h2, -⟩ := HC3.out
          exact jl_rename h2 (Below.refl _ _).drew (by omega) (jhandN nm) nm (by omega) (by omega)
        have HO := Lib.hid ho
        clear ho
        go_upto_region 11 with (fail)
        refine wp_region_still_tail 10 (by kernel_rfl) (by kernel_rfl) ?_
        simp only [List.take_succ_cons, List.take_zero, List.drop_succ_cons, List.drop_zero]
        repeat still_step
        still_call HH
        repeat still_step
        refine wpStill_nil ?_
        go_wp2_with (fail)
        refine HO.out.mono ?_
        rintro e w4 ⟨rfl, ht4⟩
        have hc4 := HC3.out.op ht4
        have HC4 := Lib.hid hc4
        obtain ⟨b0, x0, c0, c1, hfr⟩ := hc4.cells
        clear ht4 HO HH HC3 hc4
        generalize (ddo d3 (.rename (jhandN nm) nm)).2 = e4 at *
        generalize (ddo d3 (.rename (jhandN nm) nm)).1 = d4 at *
        by_cases z4 : e4 = 0
        · subst z4
          have hdoor := (HC4.out.set (errV 0)).door (M := N + 6) (by omega) (by omega)
          rw [errV_none] at hdoor ⊢
          have HD := Lib.hid hdoor
          clear hdoor
          go_wp2_with (fail)
          refine leaves_cons (f := 159) (args := #[.pointer (some ⟨w.heap.size + 1, 0, none⟩), .pointer (some ⟨w.heap.size, 0, none⟩)]) (by simp) (by simp [go_sem]) ?_
          refine HD.out.mono ?_
          rintro e u' w5 ⟨rfl, rfl, hc5, ht5⟩
          exact ⟨_, jcut_results rfl hc5, by rw [← hj, errV_none], by rw [← hj]; exact ht5⟩
        · have HE := Lib.hid z4
          have hdoor := (HC4.out.set (errV e4)).door (M := N + 6) (by omega) (by omega)
          rw [errV_some z4] at hdoor ⊢
          clear z4
          have HD := Lib.hid hdoor
          clear hdoor
          go_wp2_with (fail)
          refine leaves_cons (f := 159) (args := #[.pointer (some ⟨w.heap.size + 1, 0, none⟩), .pointer (some ⟨w.heap.size, 0, none⟩)]) (by simp) (by simp [go_sem]) ?_
          refine HD.out.mono ?_
          rintro e u' w5 ⟨rfl, rfl, hc5, ht5⟩
          exact ⟨_, jcut_results rfl hc5, by rw [← hj, errV_some HE.out], by rw [← hj]; exact ht5⟩
      · rw [if_pos z3] at hj
        obtain ⟨b0, x0, c0, c1, hfr⟩ := HC3.out.cells
        have hdoor := (HC3.out.set (errV e3)).door (M := N + 6) (by omega) (by omega)
        rw [errV_some z3] at hdoor ⊢
        have HD := Lib.hid hdoor
        have HE := Lib.hid z3
        clear hdoor z3
        go_wp2_with (fail)
        refine leaves_cons (f := 159) (args := #[.pointer (some ⟨w.heap.size + 1, 0, none⟩), .pointer (some ⟨w.heap.size, 0, none⟩)]) (by simp) (by simp [go_sem]) ?_
        refine HD.out.mono ?_
        rintro e u' w5 ⟨rfl, rfl, hc5, ht5⟩
        exact ⟨_, jcut_results rfl hc5, by rw [← hj, errV_some HE.out], by rw [← hj]; exact ht5⟩
    · rw [if_pos z2] at hj
      obtain ⟨b0, x0, c0, c1, hfr⟩ := HC2.out.cells
      have hdoor := (HC2.out.set (errV e2)).door (M := N + 6) (by omega) (by omega)
      rw [errV_some z2] at hdoor ⊢
      have HD := Lib.hid hdoor
      have HE := Lib.hid z2
      clear hdoor z2
      go_wp2_with (fail)
      refine leaves_cons (f := 159) (args := #[.pointer (some ⟨w.heap.size + 1, 0, none⟩), .pointer (some ⟨w.heap.size, 0, none⟩)]) (by simp) (by simp [go_sem]) ?_
      refine HD.out.mono ?_
      rintro e u' w5 ⟨rfl, rfl, hc5, ht5⟩
      exact ⟨_, jcut_results rfl hc5, by rw [← hj, errV_some HE.out], by rw [← hj]; exact ht5⟩
  · rw [errV_some z1]
    rw [if_pos z1] at hj
    obtain ⟨b0, x0, c0, c1, hfr⟩ := HC1.out.cells
    have HE := Lib.hid z1
    clear z1
    go_wp2_with (fail)
    have hc2 := HC1.out.set (.iface 102 (.int .i64 e1))
    exact ⟨_, jcut_results rfl hc2.cells.1, by rw [← hj, errV_some HE.out], by rw [← hj]; exact hc2.done (by omega)⟩
end Go.Proofs.YtfgpigblnkanpaaGreatDoor
