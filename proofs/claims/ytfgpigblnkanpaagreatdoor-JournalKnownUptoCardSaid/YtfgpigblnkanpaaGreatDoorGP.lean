/- The walks of what the statements on disks share: a change, what a disk shows. A disk that was made within the law: its operations, with what is kept beside it; two images held against each other. Texts that are read, an empty row anywhere; two rows held against each other. -/
import Derived.Test.YtfgpigblnkanpaaGreatDoorHF
import Derived.Laws.AppendOwnNone
import Derived.Maps.AppendAt
namespace Go.Proofs.YtfgpigblnkanpaaGreatDoor
set_option linter.unusedVariables false
open Go.RowKit Go.Maps Go.Shelf

set_option maxHeartbeats 1000000 in
set_option maxRecDepth 100000 in
theorem change_any (w : World) (A : List Nat) (g : Nat) (d : Dk) (N : Nat) (s : Sp) (kv : Value) (hkv : ∃ a n c, kv = .slice a n c) (h : Hd w A g d N) (hN : N + 1 < 4294967296) (h1 : s.name.length ≤ 140737488355328) (h2 : s.data.length ≤ 140737488355328) :
    Calls Tryz.prog 13 #[.pointer (some ⟨g, 0, none⟩), .agg (s.cells kv).toArray] w (HdDo g d (odOf s) N A w) := by
  have hS : Below w.heap.size w (w.alloc (.cells (s.cells kv).toArray 36)) := (Below.refl _ w).alloc (Nat.le_refl _) _
  have hC := operation_any _ A g d N s kv hkv (h.below hS) hN h1 h2
  obtain ⟨ka, kn, kc, rfl⟩ := hkv
  have hb := Blk.new w (s.cells (.slice ka kn kc)) 36
  have k0 := hb.cell 0
  have k1 := hb.cell 1
  have k2 := hb.cell 2
  have k3 := hb.cell 3
  have k4 := hb.cell 4
  have k5 := hb.cell 5
  unfold Sp.cells at *
  simp only [List.getElem?_cons_zero, List.getElem?_cons_succ] at k0 k1 k2 k3 k4 k5
  have HC := Lib.hid hC
  have HS := Lib.hid hS
  clear hS hb h hC
  go_enter Tryz.func13, Tryz.ntmps13
  go_wp2_with (fail)
  refine HC.out.mono ?_
  rintro e w1 hp
  have HP := Lib.hid (HdTo.from HS.out hp.2)
  obtain ⟨rfl, -⟩ := hp
  go_wp2
  go_ret
  exact ⟨rfl, HP.out⟩

/-- What a disk shows, in memory of its own. -/
def ShownPost (d : Dk) (w : World) (e : Ending) (w' : World) : Prop :=
  ∃ u v, e = .returned (.tuple #[.agg #[u, v], .bool (!d.off)]) ∧ (d.off = false → RowAt w' u ((dshown d).1.map strV) ∧ RowAt w' v ((dshown d).2.map strV)) ∧ (∀ k, u.ownBlock = some k → w.heap.size ≤ k ∧ k < w'.heap.size) ∧ (∀ k, v.ownBlock = some k → w.heap.size ≤ k ∧ k < w'.heap.size) ∧ Below w.heap.size w w'
theorem dlist_all {d : Dk} (h : d.off = false) : dlist d [] = (dshown d).1 := by
  unfold dlist dshown tnames
  rw [if_neg (by simp [h])]
  simp
theorem dread_at {d : Dk} (h : d.off = false) (hr : Rise d.now) (k : Nat) (hk : k < d.now.length) : dread d (d.now[k].1) = ((fat d.files d.now[k].2).data, 0) := by
  unfold dread
  rw [if_neg (by simp [h])]
  have : tget d.now (d.now[k].1) = some d.now[k].2 := tget_of_mem hr (List.getElem_mem hk)
  rw [this]
theorem row_below {w w' : World} {B size n : Nat} {e : TypeId} {v : Value} {xs : List Value} (h : w.ownsRow B e size v n xs) (hb : Below w.heap.size w w') : w'.ownsRow B e size v n xs :=
  h.kept (row := none) ⟨hb.os, hb.tape, hb.output, hb.size, fun i hi _ => hb.block i hi⟩ (by cases v.ownBlock <;> simp)
theorem dread_shown {d : Dk} (h : d.off = false) (hr : Rise d.now) {k : Nat} {n : Nm} (hn : (dshown d).1[k]? = some n) : ∃ x, (dshown d).2[k]? = some x ∧ dread d n = (x, 0) := by
  unfold dshown tnames at hn ⊢
  simp only [List.getElem?_map] at hn ⊢
  cases hk : d.now[k]? with
  | none => rw [hk] at hn; simp at hn
  | some y =>
    rw [hk] at hn
    obtain ⟨hlt, rfl⟩ := List.getElem?_eq_some_iff.1 hk
    obtain rfl : d.now[k].1 = n := by simpa using hn
    exact ⟨_, rfl, dread_at h hr k hlt⟩
set_option maxRecDepth 100000 in
theorem img_results {W : World} {tm : Array Value} {p : Nat} {u v b : Value} (h2 : tm[2]? = some (.pointer (some ⟨p, 0, none⟩))) (h3 : tm[3]? = some b) (c0 : W.cell? ⟨p, 0, none⟩ = some u) (c1 : W.cell? ⟨p, 1, none⟩ = some v) : (results Tryz.f17 tm).run Tryz.prog W = .ok (.tuple #[.agg #[u, v], b]) W := by
  simp [results, Tryz.results17, go_sem, c0, c1, h2, h3]
set_option maxHeartbeats 4000000 in
set_option maxRecDepth 100000 in
theorem shown_off (w : World) (A : List Nat) (g : Nat) (d : Dk) (N : Nat) (h : Hd w A g d N) (hN : N < 4294967296) (hoff : d.off = true) : Calls Tryz.prog 17 #[.pointer (some ⟨g, 0, none⟩)] w (ShownPost d w) := by
  have hS : Below w.heap.size w (w.alloc (.cells #[.slice none 0 0, .slice none 0 0] 43)) := (Below.refl _ w).alloc (Nat.le_refl _) _
  have hL := List_hd (h.below hS) hN [] (by simp)
  unfold ListPost at hL
  rw [if_pos hoff, errV_no (by omega)] at hL
  have hB := Blk.new w [.slice none 0 0, .slice none 0 0] 43
  have HL := Lib.hid hL
  have HO := Lib.hid hoff
  have HS := Lib.hid hS
  have HB := Lib.hid hB
  clear hL hoff hS h hB
  go_enter Tryz.func17, Tryz.ntmps17
  go_wp2_with (fail)
  refine HL.out.mono ?_
  rintro e w1 ⟨v, rfl, hr, hn, hb⟩
  have hb1 : Blk w1 w.heap.size [.slice none 0 0, .slice none 0 0] 43 := HB.out.below hb (by simp)
  have hw1 : w.heap.size < w1.heap.size := hb1.lt
  have k0 := hb1.cell 0
  have k1 := hb1.cell 1
  have f0 := hb1.free 0
  have f1 := hb1.free 1
  simp only [List.getElem?_cons_zero, List.getElem?_cons_succ] at k0 k1
  have hx := Blk.new w1 [.slice none 0 0, .slice none 0 0] 43
  have x0 := hx.cell 0
  have x1 := hx.cell 1
  simp only [List.getElem?_cons_zero, List.getElem?_cons_succ] at x0 x1
  go_wp2_with (fail)
  have hF := ((hb1.set 0 (.slice none 0 0)).set 1 (.slice none 0 0)).alloc (.cells #[.slice none 0 0, .slice none 0 0] 43)
  have c0 := hF.cell 0
  have c1 := hF.cell 1
  have hb2 : Below w.heap.size w (((w1.setCell { block := w.heap.size, off := 0 } (Value.slice none 0 0)).setCell { block := w.heap.size, off := 1 } (Value.slice none 0 0)).alloc (Obj.cells #[Value.slice none 0 0, Value.slice none 0 0] 43)) := (((HS.out.trans (hb.mono (by simp))).setCell (p := ⟨w.heap.size, 0, none⟩) (Nat.le_refl _) _).setCell (p := ⟨w.heap.size, 1, none⟩) (Nat.le_refl _) _).alloc (by simp; omega) _
  simp only [List.set_cons_zero, List.set_cons_succ, List.getElem?_cons_zero, List.getElem?_cons_succ] at c0 c1
  generalize ((w1.setCell { block := w.heap.size, off := 0 } (Value.slice none 0 0)).setCell { block := w.heap.size, off := 1 } (Value.slice none 0 0)).alloc (Obj.cells #[Value.slice none 0 0, Value.slice none 0 0] 43) = W at *
  refine bodyPost_ret (v := .tuple #[.agg #[.slice none 0 0, .slice none 0 0], .bool false]) (img_results rfl rfl c0 c1) rfl ?_
  refine ⟨.slice none 0 0, .slice none 0 0, by rw [HO.out]; rfl, (fun h => by rw [HO.out] at h; simp at h), (fun k h => by simp [Value.ownBlock] at h), (fun k h => by simp [Value.ownBlock] at h), hb2⟩

set_option maxHeartbeats 4000000 in
set_option maxRecDepth 100000 in
theorem shown_on (w : World) (A : List Nat) (g : Nat) (d : Dk) (N : Nat) (h : Hd w A g d N) (hN : N < 4294967296) (hoff : d.off = false) : Calls Tryz.prog 17 #[.pointer (some ⟨g, 0, none⟩)] w (ShownPost d w) := by
  have hS : Below w.heap.size w (w.alloc (.cells #[.slice none 0 0, .slice none 0 0] 43)) := (Below.refl _ w).alloc (Nat.le_refl _) _
  have hL := List_hd (h.below hS) hN [] (by simp)
  unfold ListPost at hL
  rw [if_neg (by simp [hoff])] at hL
  simp only [dlist_all hoff, errV_none] at hL
  have hB := Blk.new w [.slice none 0 0, .slice none 0 0] 43
  obtain ⟨L0, hd1, hd2, hd3, hd4, hd5⟩ := id h
  have hnl := hd1.now.nameLen
  have hdl := hd3.data
  have hnow := hd3.now
  have hrise := hd2.now
  clear hd1 hd2 hd3 hd4 hd5 L0
  obtain ⟨i0, hi, hz0, hz1, hz2⟩ := info_parts infoStr
  have hnow2 : d.now.length < 4294967296 := by omega
  have hsh1 : (dshown d).1.length = d.now.length := by unfold dshown tnames; simp
  have hsh2 : (dshown d).2.length = d.now.length := by unfold dshown; simp
  have HL := Lib.hid hL
  have HO := Lib.hid hoff
  have HS := Lib.hid hS
  have HB := Lib.hid hB
  have HH := Lib.hid h
  have HR := Lib.hid hrise
  have HNL := Lib.hid hnl
  have S1 := Lib.hid hsh1
  have S2 := Lib.hid hsh2
  clear hL hoff hS h hB hrise hnl hsh1 hsh2
  generalize hns : (dshown d).1 = ns at *
  generalize hds : (dshown d).2 = ds at *
  have HNS := Lib.hid hns
  have HDS := Lib.hid hds
  clear hns hds
  go_enter Tryz.func17, Tryz.ntmps17
  go_wp2_with (fail)
  refine HL.out.mono ?_
  rintro e w1 ⟨v, rfl, hr, hn, hb⟩
  obtain ⟨sa, sc, rfl, hsn⟩ := row_open hr
  have hb1 : Blk w1 w.heap.size [.slice none 0 0, .slice none 0 0] 43 := HB.out.below hb (by simp)
  have hw1 : w.heap.size < w1.heap.size := hb1.lt
  have hb0 : Below w.heap.size w w1 := HS.out.trans (hb.mono (by simp))
  have HB1 := Lib.hid hb1
  have HB0 := Lib.hid hb0
  have HRN := Lib.hid hr
  have HSN := Lib.hid hsn
  have hx := Blk.new w1 [.slice none 0 0, .slice none 0 0] 43
  have x0 := hx.cell 0
  have x1 := hx.cell 1
  have HX := Lib.hid hx
  simp only [List.getElem?_cons_zero, List.getElem?_cons_succ] at x0 x1
  clear hr hn hb hsn hb1 hb0 hx
  go_wp2_with (fail)
  have hd0 := Blk.new w1 [.slice sa ns.length sc, .slice none 0 0] 43
  have hbx : Below w1.heap.size w1 (w1.alloc (.cells #[Value.slice sa ns.length sc, Value.slice none 0 0] 43)) := (Below.refl _ w1).alloc (Nat.le_refl _) _
  have HD0 := Lib.hid hd0
  have HBX := Lib.hid hbx
  clear hd0 hbx x0 x1
  go_loopw [7] (fun iv wr => ∃ k u, iv = .int .i64 (k : Nat) ∧ k ≤ ns.length ∧ Blk wr w1.heap.size [.slice sa ns.length sc, u] 43 ∧ wr.ownsRow (w1.heap.size + 1) 9 1 u k ((ds.take k).map strV) ∧ Below w1.heap.size w1 wr) (fun iv _ => ns.length - (intOf iv).toNat)
  case atStart => exact ⟨0, _, rfl, Nat.zero_le _, HD0.out, World.ownsRow_nil _ _ _ _, HBX.out⟩
  case round =>
    obtain ⟨k, u, rfl, hkn, hblk, hown, hbel⟩ := hrel
    have hzr := hblk.lt
    by_cases hlt : k < ns.length
    · obtain ⟨nm, hx⟩ : ∃ x, ns[k]? = some x := ⟨_, List.getElem?_eq_getElem hlt⟩
      obtain ⟨gs, rfl, hsc, hgs⟩ := HSN.out k (strV nm) (by rw [List.getElem?_map, hx]; rfl)
      have hgb := HRN.out.lt gs hgs
      have hnc := (hbel.cell (p := ⟨gs, k, none⟩) hgb.2).trans hsc
      obtain ⟨dk, hdk, hrd⟩ := dread_shown HO.out HR.out (by rw [HNS.out]; exact hx)
      rw [HDS.out] at hdk
      have hnml : nm.length ≤ 9223372036854775807 := by
        have h1 := HNL.out nm (by rw [← HNS.out] at hx; exact List.mem_of_getElem? hx)
        unfold maxLen at h1
        exact h1
      have hRd := Read_hd (HH.out.below (HB0.out.trans (hbel.mono (Nat.le_of_lt (Nat.lt_of_lt_of_le hw1 (Nat.le_refl _)))))) nm hnml
      rw [hrd] at hRd
      have htk : (ds.take (k + 1)).map strV = List.take k (List.map strV ds) ++ [strV dk] := by
        rw [List.take_add_one, hdk, ← List.map_take]; simp
      have x0 := hblk.cell 0
      have x1 := hblk.cell 1
      have f1 := hblk.free 1
      simp only [List.getElem?_cons_zero, List.getElem?_cons_succ, errV_none] at x0 x1 hRd
      have HRD := Lib.hid hRd
      have HTK := Lib.hid htk
      have HXN := Lib.hid hx
      have HDK := Lib.hid hdk
      have HGS := Lib.hid hgs
      have HBK := Lib.hid hblk
      have HBL := Lib.hid hbel
      have hkl : k < ds.length := by have := S1.out; have := S2.out; omega
      have hnz : ns.length < 4294967296 := by have := S1.out; omega
      clear hRd htk hx hdk hrd hsc hgs hgb hblk hbel
      go_wp2_with (first
        | (go_at_call 21; refine HRD.out.mono ?_; rintro e w4 ⟨rfl, rfl⟩)
        | (at_builtin; refine wpList_append_own _ rfl _ _ 37 rfl (w1.heap.size + 1) 9 i0 (strV []) 1 16 Tryz.underlying37 hi hz0 hz1 hz2 rfl (by decide) u k ((ds.take k).map strV) rfl (hown.alloc _) ⟨wr.heap.size, 0, none⟩ 1 1 [strV dk] rfl rfl ?c1 ?c2 ?c3 ?c4 ?c5 ?_))
      case c1 => exact World.news_of_block (cs := #[strV dk]) (t := 9) (fr := (0, 0)) (heap_alloc_new wr _)
      case c2 => intro u hu; simp at hu; subst hu; rfl
      case c3 => unfold maxLen; omega
      case c4 => omega
      case c5 => simp; omega
      intro v' w5 hown5 hgrow5 hv5
      obtain ⟨va, vc, rfl, -⟩ := row_open hown5
      have hne : some w1.heap.size ≠ u.ownBlock := fun e => by
        have := (hown.lt _ e.symm).1
        omega
      have hblk5 : Blk w5 w1.heap.size [.slice (some ⟨gs, 0, none⟩) ns.length sc, u] 43 := Blk.same (HBK.out.alloc _) (hgrow5.block _ (by simp; omega) hne)
      have hbel5 : Below w1.heap.size w1 w5 := (HBL.out.alloc (by omega) _).grown hgrow5 (by simp; omega) (fun j hj => by have := (hown.lt j hj).1; omega)
      have x0 := hblk5.cell 0
      have x1 := hblk5.cell 1
      have f1 := hblk5.free 1
      simp only [List.getElem?_cons_zero, List.getElem?_cons_succ] at x0 x1
      have HO5 := Lib.hid hown5
      have HB5 := Lib.hid hblk5
      have HBL5 := Lib.hid hbel5
      clear hown5 hgrow5 hv5 hown hblk5 hbel5 hne
      go_wp2
      go_roundw
      case rel =>
        refine ⟨k + 1, _, by go_num, by omega, HB5.out.set 1 _, ?_, HBL5.out.setCell (p := ⟨w1.heap.size, 1, none⟩) (Nat.le_refl _) _⟩
        rw [HTK.out]
        exact ownsRow_setCell_below HO5.out (Nat.lt_succ_self _) _
      case measure => simp [intOf]; omega
    · have hke : k = ns.length := by omega
      obtain ⟨ua, uc, rfl, -⟩ := row_open hown
      have HBK := Lib.hid hblk
      have HBL := Lib.hid hbel
      have HOW := Lib.hid hown
      have x0 := hblk.cell 0
      have x1 := hblk.cell 1
      have hb1' := HB1.out.below hbel hw1
      have y0 := hb1'.cell 0
      have y1 := hb1'.cell 1
      have g0 := hb1'.free 0
      have g1 := hb1'.free 1
      have HB1' := Lib.hid hb1'
      have HKE := Lib.hid hke
      simp only [List.getElem?_cons_zero, List.getElem?_cons_succ] at x0 x1 y0 y1
      clear hblk hbel hown hke hb1'
      go_wp2
      have hF := (HB1'.out.set 0 (.slice sa ns.length sc)).set 1 (.slice ua k uc)
      have c0 := hF.cell 0
      have c1 := hF.cell 1
      simp only [List.set_cons_zero, List.set_cons_succ, List.getElem?_cons_zero, List.getElem?_cons_succ] at c0 c1
      have hown2 := ownsRow_setCell_below (ownsRow_setCell_below HOW.out (a := ⟨w.heap.size, 0, none⟩) (by simp; omega) (.slice sa ns.length sc)) (a := ⟨w.heap.size, 1, none⟩) (by simp; omega) (.slice ua k uc)
      have hrn2 := ownsRow_setCell_below (ownsRow_setCell_below (row_below HRN.out HBL.out) (a := ⟨w.heap.size, 0, none⟩) (by simp) (.slice sa ns.length sc)) (a := ⟨w.heap.size, 1, none⟩) (by simp) (.slice ua k uc)
      have hb2 : Below w.heap.size w ((wr.setCell { block := w.heap.size, off := 0 } (Value.slice sa ns.length sc)).setCell { block := w.heap.size, off := 1 } (Value.slice ua k uc)) := ((HB0.out.trans (HBL.out.mono (by omega))).setCell (p := ⟨w.heap.size, 0, none⟩) (Nat.le_refl _) _).setCell (p := ⟨w.heap.size, 1, none⟩) (Nat.le_refl _) _
      generalize (wr.setCell { block := w.heap.size, off := 0 } (Value.slice sa ns.length sc)).setCell { block := w.heap.size, off := 1 } (Value.slice ua k uc) = W at *
      refine bodyPost_ret (v := .tuple #[.agg #[.slice sa ns.length sc, .slice ua k uc], .bool true]) (img_results rfl rfl c0 c1) rfl ?_
      have htk : List.map strV (ds.take k) = ds.map strV := by rw [List.take_of_length_le (by have := HKE.out; have := S1.out; have := S2.out; omega)]
      rw [htk] at hown2
      refine ⟨_, _, by rw [HO.out]; rfl, (fun _ => ⟨by rw [HNS.out]; exact RowAt.of_row hrn2, by rw [HDS.out]; exact RowAt.of_row hown2⟩), (fun k h => ?_), (fun k h => ?_), hb2⟩
      · have := hrn2.lt k h
        simp at this
        omega
      · have := hown2.lt k h
        omega
theorem shown_any (w : World) (A : List Nat) (g : Nat) (d : Dk) (N : Nat) (h : Hd w A g d N) (hN : N < 4294967296) : Calls Tryz.prog 17 #[.pointer (some ⟨g, 0, none⟩)] w (ShownPost d w) := by
  cases hoff : d.off with
  | true => exact shown_off w A g d N h hN hoff
  | false => exact shown_on w A g d N h hN hoff
end Go.Proofs.YtfgpigblnkanpaaGreatDoor

namespace Go.Proofs.YtfgpigblnkanpaaGreatDoor
open Go.RowKit Go.Maps Go.Shelf
set_option linter.unusedVariables false

theorem ddo_eq {d d' : Dk} {o : Od} {c : Nat} (h1 : (ddo d o).1 = d') (h2 : (ddo d o).2 = c) : ddo d o = (d', c) := by rw [← h1, ← h2]
/-- A disk made behind w0, within the blocks A; the blocks K are no blocks of it. -/
structure Mine (w0 w : World) (K A : List Nat) (g : Nat) (d : Dk) (N : Nat) : Prop where
  hd : Hd w A g d N
  base : ∀ k ∈ A, w0.heap.size ≤ k
  bel : Below w0.heap.size w0 w
  far : ∀ k ∈ K, k < w.heap.size ∧ k ∉ A
/-- Behind a call on it. -/
def MineTo (w0 : World) (K : List Nat) (w : World) (g : Nat) (d' : Dk) (N' : Nat) (w' : World) : Prop :=
  (∃ A', Mine w0 w' K A' g d' N') ∧ ∀ k ∈ K, w'.heap[k]? = w.heap[k]?
section
variable {w0 w w' : World} {K A : List Nat} {g : Nat} {d d' : Dk} {N N' : Nat}
theorem Mine.to (h : Mine w0 w K A g d N) (ht : HdTo g d' N' A w w') : MineTo w0 K w g d' N' w' := by
  obtain ⟨A', h1, h2⟩ := ht
  refine ⟨⟨A', h1, h2.from h.base h.bel.size, h.bel.trans (h2.below h.base h.bel.size), fun k hk => ⟨Nat.lt_of_lt_of_le (h.far k hk).1 h2.size, fun hm => ?_⟩⟩, fun k hk => h2.block k (h.far k hk).1 (h.far k hk).2⟩
  rcases h2.inn k hm with h3 | h3
  · exact (h.far k hk).2 h3
  · have := (h.far k hk).1
    omega
theorem Mine.below (h : Mine w0 w K A g d N) (hb : Below w.heap.size w w') : Mine w0 w' K A g d N :=
  ⟨h.hd.below hb, h.base, h.bel.trans (hb.mono h.bel.size), fun k hk => ⟨Nat.lt_of_lt_of_le (h.far k hk).1 hb.size, (h.far k hk).2⟩⟩
theorem Mine.add (h : Mine w0 w K A g d N) (hb : Below w.heap.size w w') (M : List Nat) (hM : ∀ k ∈ M, w.heap.size ≤ k ∧ k < w'.heap.size) : Mine w0 w' (M ++ K) A g d N := by
  have h2 := h.below hb
  refine ⟨h2.hd, h2.base, h2.bel, fun k hk => ?_⟩
  rcases List.mem_append.1 hk with h3 | h3
  · exact ⟨(hM k h3).2, fun hm => by have := h.hd.lt k hm; have := (hM k h3).1; omega⟩
  · exact h2.far k h3
theorem Mine.less (h : Mine w0 w K A g d N) {M : List Nat} (hM : ∀ k ∈ M, k ∈ K) : Mine w0 w M A g d N := ⟨h.hd, h.base, h.bel, fun k hk => h.far k (hM k hk)⟩
theorem Mine.mono (h : Mine w0 w K A g d N) {M : Nat} (hm : N ≤ M) : Mine w0 w K A g d M := ⟨h.hd.mono hm, h.base, h.bel, h.far⟩
theorem Mine.set (h : Mine w0 w K A g d N) (a : Addr) (ha : a.block ∈ K) (hb : w0.heap.size ≤ a.block) (v : Value) : Mine w0 (w.setCell a v) K A g d N :=
  ⟨h.hd.set a (h.far _ ha).2 v, h.base, h.bel.setCell hb v, fun k hk => ⟨by simpa [World.setCell] using (h.far k hk).1, (h.far k hk).2⟩⟩
variable {c : Nat}
theorem Mine.do {o : Od} {e : Ending} (h : Mine w0 w K A g d N) (hc : ddo d o = (d', c)) (hp : HdDo g d o N A w e w') : e = .returned (errV c) ∧ MineTo w0 K w g d' (N + 1) w' := by
  obtain ⟨he, ht⟩ := hp
  rw [hc] at he ht
  exact ⟨he, h.to ht⟩
theorem Create_m (h : Mine w0 w K A g d N) (n : Nm) (hc : ddo d (.create n) = (d', c)) (hN : N + 1 < 4294967296) (hn : n.length ≤ 9223372036854775807) : Calls Tryz.prog 30 #[.pointer (some ⟨g, 0, none⟩), strV n] w fun e w' => e = .returned (errV c) ∧ MineTo w0 K w g d' (N + 1) w' :=
  (Create_hd h.hd hN n hn).mono fun e w' hp => h.do hc hp
theorem Sync_m (h : Mine w0 w K A g d N) (n : Nm) (hc : ddo d (.sync n) = (d', c)) (hN : N + 1 < 4294967296) (hn : n.length ≤ 9223372036854775807) : Calls Tryz.prog 15 #[.pointer (some ⟨g, 0, none⟩), strV n] w fun e w' => e = .returned (errV c) ∧ MineTo w0 K w g d' (N + 1) w' :=
  (Sync_hd h.hd hN n hn).mono fun e w' hp => h.do hc hp
theorem Remove_m (h : Mine w0 w K A g d N) (n : Nm) (hc : ddo d (.remove n) = (d', c)) (hN : N + 1 < 4294967296) (hn : n.length ≤ 9223372036854775807) : Calls Tryz.prog 34 #[.pointer (some ⟨g, 0, none⟩), strV n] w fun e w' => e = .returned (errV c) ∧ MineTo w0 K w g d' (N + 1) w' :=
  (Remove_hd h.hd hN n hn).mono fun e w' hp => h.do hc hp
theorem Write_m (h : Mine w0 w K A g d N) (n : Nm) (s : List UInt8) (hc : ddo d (.write n s) = (d', c)) (hN : N + 1 < 4294967296) (hn : n.length ≤ 9223372036854775807) (hs : s.length ≤ 140737488355328) : Calls Tryz.prog 31 #[.pointer (some ⟨g, 0, none⟩), strV n, strV s] w fun e w' => e = .returned (errV c) ∧ MineTo w0 K w g d' (N + 1) w' :=
  (Write_hd h.hd hN n s hn hs).mono fun e w' hp => h.do hc hp
theorem Rename_m (h : Mine w0 w K A g d N) (o n : Nm) (hc : ddo d (.rename o n) = (d', c)) (hN : N + 1 < 4294967296) (ho : o.length ≤ 9223372036854775807) (hn : n.length ≤ 9223372036854775807) : Calls Tryz.prog 33 #[.pointer (some ⟨g, 0, none⟩), strV o, strV n] w fun e w' => e = .returned (errV c) ∧ MineTo w0 K w g d' (N + 1) w' :=
  (Rename_hd h.hd hN o n ho hn).mono fun e w' hp => h.do hc hp
theorem Flush_m (h : Mine w0 w K A g d N) (hc : ddo d .flush = (d', c)) (hN : N + 1 < 4294967296) : Calls Tryz.prog 16 #[.pointer (some ⟨g, 0, none⟩)] w fun e w' => e = .returned (errV c) ∧ MineTo w0 K w g d' (N + 1) w' :=
  (Flush_hd h.hd hN).mono fun e w' hp => h.do hc hp
theorem Crash_m (h : Mine w0 w K A g d N) (kv : Value) (keep : List Int) (hc : dcrash d keep = d') (hN : N < 4294967296) (hi : IntsAt w kv keep) (hkv : ∀ j, usesOf kv keep = some j → j < w.heap.size ∧ j ∉ A) : Calls Tryz.prog 18 #[.pointer (some ⟨g, 0, none⟩), .agg #[kv]] w fun e w' => e = .returned (.tuple #[]) ∧ MineTo w0 K w g d' N w' :=
  (Crash_hd h.hd hN kv keep hi hkv).mono fun e w' ⟨he, hp⟩ => ⟨he, h.to (by rw [← hc]; exact hp)⟩
theorem Revive_m (h : Mine w0 w K A g d N) (hc : drevive d = d') : Calls Tryz.prog 19 #[.pointer (some ⟨g, 0, none⟩)] w fun e w' => e = .returned (.tuple #[]) ∧ MineTo w0 K w g d' N w' :=
  (Revive_hd h.hd).mono fun e w' ⟨he, hp⟩ => ⟨he, h.to (by rw [← hc]; exact hp)⟩
theorem Read_m (h : Mine w0 w K A g d N) (n : Nm) {s : List UInt8} (hc : dread d n = (s, c)) (hn : n.length ≤ 9223372036854775807) : Calls Tryz.prog 21 #[.pointer (some ⟨g, 0, none⟩), strV n] w fun e w' => e = .returned (.tuple #[strV s, errV c]) ∧ w = w' := by
  have := Read_hd h.hd n hn
  rw [hc] at this
  exact this
theorem Used_m (h : Mine w0 w K A g d N) {k : Nat} (hc : dused d = k) (hN : N < 4294967296) : Calls Tryz.prog 29 #[.pointer (some ⟨g, 0, none⟩)] w fun e w' => e = .returned (.int .i64 k) ∧ Below w.heap.size w w' := by
  have := Used_hd h.hd hN
  rw [hc] at this
  exact this
theorem New_m (w0 w : World) (hb : Below w0.heap.size w0 w) (K : List Nat) (hK : ∀ k ∈ K, k < w.heap.size) (room : Int) : Calls Tryz.prog 11 #[.int .i64 room] w fun e w' => ∃ g A, e = .returned (.pointer (some ⟨g, 0, none⟩)) ∧ Mine w0 w' K A g (dnew room) 0 ∧ Below w.heap.size w w' :=
  (New_hd w room).mono fun e w' ⟨g, A, he, h, hb2, hA⟩ => ⟨g, A, he, ⟨h, fun k hk => Nat.le_trans hb.size (hA k hk), hb.trans (hb2.mono hb.size), fun k hk => ⟨Nat.lt_of_lt_of_le (hK k hk) hb2.size, fun hm => by have := hA k hm; have := hK k hk; omega⟩⟩, hb2⟩
end
theorem RowAt.below {w w' : World} {v : Value} {l : List Value} (h : RowAt w v l) (hb : Below w.heap.size w w') : RowAt w' v l := by
  rcases h with h | ⟨b, off, cap, rfl, h3⟩
  · exact Or.inl h
  · exact Or.inr ⟨b, off, cap, rfl, fun k x hx => by
      have h4 := h3 k x hx
      exact (hb.cell (World.block_lt_of_cell? w _ h4)).trans h4⟩
set_option maxHeartbeats 2000000 in
set_option maxRecDepth 100000 in
theorem same_any (w : World) (u v x y : Value) (l m k n : List (List UInt8)) (hu : TextsAt w u l) (hv : TextsAt w v m) (hx : TextsAt w x k) (hy : TextsAt w y n) (h1 : l.length < 4294967296) (h2 : m.length < 4294967296) (h3 : k.length < 4294967296) (h4 : n.length < 4294967296) :
    Calls Tryz.prog 20 #[.agg #[u, v], .agg #[x, y]] w fun e w' => e = .returned (.bool (decide ((l, m) = (k, n)))) ∧ Below w.heap.size w w' := by
  have hS : Below w.heap.size w ((w.alloc (.cells #[u, v] 43)).alloc (.cells #[x, y] 43)) := ((Below.refl _ w).alloc (Nat.le_refl _) _).alloc (by simp) _
  have hA := SameTexts_any _ u x l k (hu.below hS) (hx.below hS) (by omega) (by omega)
  have hS2 : ∀ q, Below w.heap.size w (((w.alloc (.cells #[u, v] 43)).alloc (.cells #[x, y] 43)).drewN q) := fun q => ⟨hS.os, hS.tape, hS.output, hS.size, hS.block⟩
  have hB := fun q => SameTexts_any (((w.alloc (.cells #[u, v] 43)).alloc (.cells #[x, y] 43)).drewN q) v y m n (hv.below (hS2 q)) (hy.below (hS2 q)) (by omega) (by omega)
  obtain ⟨ua, uc, rfl, -⟩ := hu.shape
  obtain ⟨va, vc, rfl, -⟩ := hv.shape
  obtain ⟨xa, xc, rfl, -⟩ := hx.shape
  obtain ⟨ya, yc, rfl, -⟩ := hy.shape
  simp only [List.length_map] at *
  have HA := Lib.hid hA
  have HB := Lib.hid hB
  have HS := Lib.hid hS
  have HS2 := Lib.hid hS2
  clear hA hB hS hS2 hu hv hx hy
  by_cases hlk : l = k
  · have ha : decide (l = k) = true := by simp [hlk]
    by_cases hmn : m = n
    · have hb : decide (m = n) = true := by simp [hmn]
      have hr : decide ((l, m) = (k, n)) = true := by simp [hlk, hmn]
      rw [ha] at HA
      simp only [hb] at HB
      have HR := Lib.hid hr
      clear hlk hmn ha hb hr
      go_enter Tryz.func20, Tryz.ntmps20
      go_wp2_with (fail)
      refine HA.out.mono ?_
      rintro e w1 ⟨rfl, q, rfl⟩
      go_wp2_with (fail)
      refine (HB.out q).mono ?_
      rintro e w1 ⟨rfl, q2, rfl⟩
      go_wp2
      go_ret
      exact ⟨by rw [HR.out]; rfl, HS2.out _⟩
    · have hb : decide (m = n) = false := by simp [hmn]
      have hr : decide ((l, m) = (k, n)) = false := by simp [hmn]
      rw [ha] at HA
      simp only [hb] at HB
      have HR := Lib.hid hr
      clear hlk hmn ha hb hr
      go_enter Tryz.func20, Tryz.ntmps20
      go_wp2_with (fail)
      refine HA.out.mono ?_
      rintro e w1 ⟨rfl, q, rfl⟩
      go_wp2_with (fail)
      refine (HB.out q).mono ?_
      rintro e w1 ⟨rfl, q2, rfl⟩
      go_wp2
      go_ret
      exact ⟨by rw [HR.out]; rfl, HS2.out _⟩
  · have ha : decide (l = k) = false := by simp [hlk]
    have hr : decide ((l, m) = (k, n)) = false := by simp [hlk]
    rw [ha] at HA
    have HR := Lib.hid hr
    clear hlk ha hr
    go_enter Tryz.func20, Tryz.ntmps20
    go_wp2_with (fail)
    refine HA.out.mono ?_
    rintro e w1 ⟨rfl, q, rfl⟩
    go_wp2
    go_ret
    exact ⟨by rw [HR.out]; rfl, HS2.out _⟩
/-- append of a row that reads as these values, one cell each: nil or not. -/
theorem wpList_append_row {w : World} {ops : Array Oper} {rest : List Oper} {o : Oper} {a : Act} {Q : Exit → Act → World → Prop} (hgd : o.guard = none) (s x : Operand) (t : TypeId)
    (ho : o.op = .call { callee := .builtin .append, args := #[s, x], argTypes := #[t, t] })
    (base : Nat) (e : TypeId) (i : TypeInfo) (z : Value) (bytes : Nat) (ht : Tryz.prog.underlying t = some (.slice e)) (hi : Tryz.prog.info? e = some i) (hz : i.zero = some z)
    (hsize : i.size = 1) (hby : i.bytes = bytes) (hzs : z.cells.size = 1)
    (v : Value) (n : Nat) (xs : List Value) (hs : a.eval s = v) (hown : w.ownsRow base e 1 v n xs)
    (y : Value) (news : List Value) (hx : a.eval x = y) (hrow : RowAt w y news) (h1 : ∀ u ∈ news, u.oneCell' = true)
    (h63 : n + news.length ≤ maxLen) (hbytes : (n + news.length) * bytes ≤ 140737488355328) (hbase : base ≤ w.heap.size)
    (h : ∀ v' w', w'.ownsRow base e 1 v' (n + news.length) (xs ++ news) → w.grownBy w' v.ownBlock → (v'.ownBlock = v.ownBlock ∨ v'.ownBlock = some w.heap.size) → wpList Tryz.prog ops Q rest (a.put o.dst v') w') :
    wpList Tryz.prog ops Q (o :: rest) a w := by
  rcases hrow with ⟨rfl, rfl⟩ | ⟨b, off, cap, rfl, hc⟩
  · exact wpList_append_own_none hgd s x t ho base e i 1 ht hi v n xs hs hown hx (h v w (by simpa using hown) (World.grownBy.refl w _) (Or.inl rfl))
  · exact wpList_append_own_at w hgd s x t ho base e i z 1 bytes ht hi hz hsize hby hzs (by decide) v n xs hs hown ⟨b, off, none⟩ news.length cap news hx (by simp) (fun j u hj => by
      have := hc j u hj
      by_cases h0 : j = 0
      · subst h0; simpa [Addr.add] using this
      · simpa [Addr.add, h0] using this) h1 h63 hbytes hbase (fun v' w' a1 a2 _ a4 => h v' w' a1 a2 a4)
theorem change_m {w0 w : World} {K A : List Nat} {g : Nat} {d : Dk} {N : Nat} (h : Mine w0 w K A g d N) (s : Sp) (ka : Option Addr) (kn kc : Nat) (hN : N + 1 < 4294967296) (h1 : s.name.length ≤ 140737488355328) (h2 : s.data.length ≤ 140737488355328) :
    Calls Tryz.prog 13 #[.pointer (some ⟨g, 0, none⟩), .agg (s.cells (.slice ka kn kc)).toArray] w fun e w' => e = .returned (errV (ddo d (odOf s)).2) ∧ MineTo w0 K w g (ddo d (odOf s)).1 (N + 1) w' :=
  (change_any w A g d N s _ ⟨_, _, _, rfl⟩ h.hd hN h1 h2).mono fun e w' hp => h.do rfl hp
theorem IntsAt.uses {w : World} {v : Value} {l : List Int} (h : IntsAt w v l) : ∀ j, usesOf v l = some j → j < w.heap.size := fun j hj => by
  rcases h with ⟨rfl, _⟩ | ⟨b, off, cap, rfl, h1, h2, h3⟩
  · exact (usesOf_nil hj).elim
  · cases l with
    | nil => exact (usesOf_nil hj).elim
    | cons x l =>
      have e := usesOf_own hj
      simp [Value.ownBlock] at e
      subst e
      exact World.block_lt_of_cell? w _ (h3 0 x rfl)
theorem IntsAt.below {w w' : World} {v : Value} {l : List Int} (h : IntsAt w v l) (hb : Below w.heap.size w w') : IntsAt w' v l := h.same fun k hk => hb.block k (h.uses k hk)
end Go.Proofs.YtfgpigblnkanpaaGreatDoor

namespace Go.Proofs.YtfgpigblnkanpaaGreatDoor
open Go.RowKit Go.Maps Go.Shelf
set_option linter.unusedVariables false

/-- A slice whose cells read as these texts. -/
def ShapeT (w : World) (v : Value) (l : List (List UInt8)) : Prop := ∃ a c, v = .slice a l.length c ∧ ∀ k x, l[k]? = some x → ∃ b off, a = some ⟨b, off, none⟩ ∧ w.cell? ⟨b, off + k, none⟩ = some (strV x)
theorem TextsAt.sh {w : World} {v : Value} {l : List (List UInt8)} (h : TextsAt w v l) : ShapeT w v l := by
  obtain ⟨a, c, rfl, h2⟩ := h.shape
  simp only [List.length_map] at *
  refine ⟨a, c, rfl, fun k x hx => ?_⟩
  obtain ⟨b, off, h3, h4, -⟩ := h2 k (strV x) (by rw [List.getElem?_map, hx]; rfl)
  exact ⟨b, off, h3, h4⟩
theorem ShapeT.below {w w' : World} {v : Value} {l : List (List UInt8)} (h : ShapeT w v l) (hb : Below w.heap.size w w') : ShapeT w' v l := by
  obtain ⟨a, c, rfl, h2⟩ := h
  refine ⟨a, c, rfl, fun k x hx => ?_⟩
  obtain ⟨b, off, h3, h4⟩ := h2 k x hx
  exact ⟨b, off, h3, (hb.cell (World.block_lt_of_cell? w _ h4)).trans h4⟩
theorem ShapeT.take {w : World} {a : Option Addr} {n c : Nat} {l : List (List UInt8)} (h : ShapeT w (.slice a n c) l) (k : Nat) (hk : k ≤ l.length) : ShapeT w (.slice a k c) (l.take k) := by
  obtain ⟨a', c', e, h2⟩ := h
  simp only [Value.slice.injEq] at e
  obtain ⟨rfl, -, rfl⟩ := e
  refine ⟨a, c, by rw [List.length_take, Nat.min_eq_left hk], fun j x hx => h2 j x ?_⟩
  rw [List.getElem?_take] at hx
  split at hx
  · exact hx
  · simp at hx
set_option maxHeartbeats 1000000 in
set_option maxRecDepth 100000 in
theorem SameTexts_sh (w : World) (v u : Value) (l m : List (List UInt8)) (hv : ShapeT w v l) (hu : ShapeT w u m) (hl : l.length ≤ 9223372036854775807) (_hm : m.length ≤ 9223372036854775807) :
    Calls Tryz.prog 69 #[v, u] w fun e w' => e = .returned (.bool (decide (l = m))) ∧ ∃ q, w' = w.drewN q := by
  obtain ⟨a, c, rfl, ha⟩ := hv
  obtain ⟨b, c2, rfl, hb⟩ := hu
  have HA := Lib.hid ha
  have HB := Lib.hid hb
  clear ha hb
  by_cases hlen : l.length = m.length
  · rw [hlen]
    have HL := Lib.hid hlen
    rw [hlen] at hl
    clear hlen
    go_enter Tryz.func69, Tryz.ntmps69
    go_wp2
    go_loopw [5] (fun i wr => ∃ k q : Nat, i = .int .i64 k ∧ k ≤ m.length ∧ Hid (l.take k = m.take k) ∧ wr = w.drewN q) (fun i _ => m.length - (intOf i).toNat)
    case atStart => exact ⟨0, 0, rfl, Nat.zero_le _, rfl, rfl⟩
    case round =>
      obtain ⟨k, q, rfl, hk, hE, rfl⟩ := hrel
      by_cases hlt : k < m.length
      · obtain ⟨x, hx⟩ : ∃ x, l[k]? = some x := ⟨_, List.getElem?_eq_getElem (by have := HL.out; omega)⟩
        obtain ⟨y, hy⟩ : ∃ y, m[k]? = some y := ⟨_, List.getElem?_eq_getElem hlt⟩
        obtain ⟨b1, o1, rfl, hc1⟩ := HA.out k x hx
        obtain ⟨b2, o2, rfl, hc2⟩ := HB.out k y hy
        have ht1 := toList_str x
        have ht2 := toList_str y
        have ik0 : (0 : Int) ≤ (k : Int) := by omega
        have ik1 : (k : Int) < (m.length : Int) := by omega
        have HX := Lib.hid hx
        have HY := Lib.hid hy
        clear hx hy
        by_cases hxy : x = y
        · subst hxy
          have hE2 : Hid (l.take (k + 1) = m.take (k + 1)) := by
            show _ = _
            rw [List.take_add_one, List.take_add_one, HX.out, HY.out, hE.out]
          clear ht1 ht2
          go_wp2
          go_quiet (fail)
          go_wp2
          go_roundw
          case rel => exact ⟨k + 1, _, by go_num, by omega, hE2, rfl⟩
          case measure => simp [intOf]; omega
        · have hq : ((str x).toList == (str y).toList) = false := by rw [ht1, ht2]; simpa using hxy
          have hne : l ≠ m := fun e => hxy (by
            have h1 := HX.out
            rw [e, HY.out] at h1
            exact (Option.some.inj h1).symm)
          have HN := Lib.hid hne
          clear hxy ht1 ht2 hne
          go_wp2
          go_quiet (fail)
          go_wp2
          go_ret
          exact ⟨by rw [decide_eq_false HN.out]; rfl, q + nq, drewN_add w q nq⟩
      · have he : l = m := by
          have h1 := hE.out
          rw [List.take_of_length_le (by have := HL.out; omega), List.take_of_length_le (by omega)] at h1
          exact h1
        have HE := Lib.hid he
        clear he
        go_wp2
        go_ret
        exact ⟨by rw [decide_eq_true HE.out]; rfl, _, rfl⟩
  · have hne : l ≠ m := fun e => hlen (by rw [e])
    have HN := Lib.hid hne
    clear hne
    have hq : ((l.length : Int) == (m.length : Int)) = false := by simp; omega
    have hq2 : ((l.length : Int) != (m.length : Int)) = true := by simp; omega
    clear hlen
    go_enter Tryz.func69, Tryz.ntmps69
    go_wp2
    go_ret
    exact ⟨by rw [decide_eq_false HN.out]; rfl, 0, rfl⟩
end Go.Proofs.YtfgpigblnkanpaaGreatDoor
