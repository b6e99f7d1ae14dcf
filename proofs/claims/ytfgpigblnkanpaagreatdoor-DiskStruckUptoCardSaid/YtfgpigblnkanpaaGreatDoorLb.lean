/- The walks of what the statements on disks share: a change, what a disk shows. -/
import Derived.Test.YtfgpigblnkanpaaGreatDoorLa
namespace Go.Proofs.YtfgpigblnkanpaaGreatDoor
set_option linter.unusedVariables false
open Go.RowKit Go.Maps Go.Shelf

set_option maxHeartbeats 1000000 in
set_option maxRecDepth 100000 in
theorem change_any (w : World) (A : List Nat) (g : Nat) (d : Dk) (N : Nat) (s : Sp) (kv : Value) (hkv : ∃ a n c, kv = .slice a n c) (h : Hd w A g d N) (hN : N + 1 < 4294967296) (h1 : s.name.length ≤ 140737488355328) (h2 : s.data.length ≤ 140737488355328) :
    Calls Tryz.prog 13 #[.pointer (some ⟨g, 0, none⟩), .agg (s.cells kv).toArray] w (HdDo g d (odOf s) N A w) := by
  have hS : Below w.heap.size w (w.alloc (.cells (s.cells kv).toArray 36)) := (Below.refl _ w).alloc (Nat.le_refl _) _
  have hC := operation_any _ A g d N s kv hkv (h.below hS) hN h1 h2
  obtain ⟨ka, kn, kc, rfl⟩ := hkv
  have hb := Blk.new w (s.cells (.slice ka kn kc)) 36
  have k0 := hb.cell 0
  have k1 := hb.cell 1
  have k2 := hb.cell 2
  have k3 := hb.cell 3
  have k4 := hb.cell 4
  have k5 := hb.cell 5
  unfold Sp.cells at *
  simp only [List.getElem?_cons_zero, List.getElem?_cons_succ] at k0 k1 k2 k3 k4 k5
  have HC := Lib.hid hC
  have HS := Lib.hid hS
  clear hS hb h hC
  go_enter Tryz.func13, Tryz.ntmps13
  go_wp2_with (fail)
  refine HC.out.mono ?_
  rintro e w1 hp
  have HP := Lib.hid (HdTo.from HS.out hp.2)
  obtain ⟨rfl, -⟩ := hp
  go_wp2
  go_ret
  exact ⟨rfl, HP.out⟩

/-- What a disk shows, in memory of its own. -/
def ShownPost (d : Dk) (w : World) (e : Ending) (w' : World) : Prop :=
  ∃ u v, e = .returned (.tuple #[.agg #[u, v], .bool (!d.off)]) ∧ (d.off = false → RowAt w' u ((dshown d).1.map strV) ∧ RowAt w' v ((dshown d).2.map strV)) ∧ (∀ k, u.ownBlock = some k → w.heap.size ≤ k ∧ k < w'.heap.size) ∧ (∀ k, v.ownBlock = some k → w.heap.size ≤ k ∧ k < w'.heap.size) ∧ Below w.heap.size w w'
theorem dlist_all {d : Dk} (h : d.off = false) : dlist d [] = (dshown d).1 := by
  unfold dlist dshown tnames
  rw [if_neg (by simp [h])]
  simp
theorem dread_at {d : Dk} (h : d.off = false) (hr : Rise d.now) (k : Nat) (hk : k < d.now.length) : dread d (d.now[k].1) = ((fat d.files d.now[k].2).data, 0) := by
  unfold dread
  rw [if_neg (by simp [h])]
  have : tget d.now (d.now[k].1) = some d.now[k].2 := tget_of_mem hr (List.getElem_mem hk)
  rw [this]
theorem row_below {w w' : World} {B size n : Nat} {e : TypeId} {v : Value} {xs : List Value} (h : w.ownsRow B e size v n xs) (hb : Below w.heap.size w w') : w'.ownsRow B e size v n xs :=
  h.kept (row := none) ⟨hb.os, hb.tape, hb.output, hb.size, fun i hi _ => hb.block i hi⟩ (by cases v.ownBlock <;> simp)
theorem dread_shown {d : Dk} (h : d.off = false) (hr : Rise d.now) {k : Nat} {n : Nm} (hn : (dshown d).1[k]? = some n) : ∃ x, (dshown d).2[k]? = some x ∧ dread d n = (x, 0) := by
  unfold dshown tnames at hn ⊢
  simp only [List.getElem?_map] at hn ⊢
  cases hk : d.now[k]? with
  | none => rw [hk] at hn; simp at hn
  | some y =>
    rw [hk] at hn
    obtain ⟨hlt, rfl⟩ := List.getElem?_eq_some_iff.1 hk
    obtain rfl : d.now[k].1 = n := by simpa using hn
    exact ⟨_, rfl, dread_at h hr k hlt⟩
set_option maxRecDepth 100000 in
theorem img_results {W : World} {tm : Array Value} {p : Nat} {u v b : Value} (h2 : tm[2]? = some (.pointer (some ⟨p, 0, none⟩))) (h3 : tm[3]? = some b) (c0 : W.cell? ⟨p, 0, none⟩ = some u) (c1 : W.cell? ⟨p, 1, none⟩ = some v) : (results Tryz.f17 tm).run Tryz.prog W = .ok (.tuple #[.agg #[u, v], b]) W := by
  simp [results, Tryz.results17, go_sem, c0, c1, h2, h3]
set_option maxHeartbeats 4000000 in
set_option maxRecDepth 100000 in
theorem shown_off (w : World) (A : List Nat) (g : Nat) (d : Dk) (N : Nat) (h : Hd w A g d N) (hN : N < 4294967296) (hoff : d.off = true) : Calls Tryz.prog 17 #[.pointer (some ⟨g, 0, none⟩)] w (ShownPost d w) := by
  have hS : Below w.heap.size w (w.alloc (.cells #[.slice none 0 0, .slice none 0 0] 43)) := (Below.refl _ w).alloc (Nat.le_refl _) _
  have hL := List_hd (h.below hS) hN [] (by simp)
  unfold ListPost at hL
  rw [if_pos hoff, errV_no (by omega)] at hL
  have hB := Blk.new w [.slice none 0 0, .slice none 0 0] 43
  have HL := Lib.hid hL
  have HO := Lib.hid hoff
  have HS := Lib.hid hS
  have HB := Lib.hid hB
  clear hL hoff hS h hB
  go_enter Tryz.func17, Tryz.ntmps17
  go_wp2_with (fail)
  refine HL.out.mono ?_
  rintro e w1 ⟨v, rfl, hr, hn, hb⟩
  have hb1 : Blk w1 w.heap.size [.slice none 0 0, .slice none 0 0] 43 := HB.out.below hb (by simp)
  have hw1 : w.heap.size < w1.heap.size := hb1.lt
  have k0 := hb1.cell 0
  have k1 := hb1.cell 1
  have f0 := hb1.free 0
  have f1 := hb1.free 1
  simp only [List.getElem?_cons_zero, List.getElem?_cons_succ] at k0 k1
  have hx := Blk.new w1 [.slice none 0 0, .slice none 0 0] 43
  have x0 := hx.cell 0
  have x1 := hx.cell 1
  simp only [List.getElem?_cons_zero, List.getElem?_cons_succ] at x0 x1
  go_wp2_with (fail)
  have hF := ((hb1.set 0 (.slice none 0 0)).set 1 (.slice none 0 0)).alloc (.cells #[.slice none 0 0, .slice none 0 0] 43)
  have c0 := hF.cell 0
  have c1 := hF.cell 1
  have hb2 : Below w.heap.size w (((w1.setCell { block := w.heap.size, off := 0 } (Value.slice none 0 0)).setCell { block := w.heap.size, off := 1 } (Value.slice none 0 0)).alloc (Obj.cells #[Value.slice none 0 0, Value.slice none 0 0] 43)) := (((HS.out.trans (hb.mono (by simp))).setCell (p := ⟨w.heap.size, 0, none⟩) (Nat.le_refl _) _).setCell (p := ⟨w.heap.size, 1, none⟩) (Nat.le_refl _) _).alloc (by simp; omega) _
  simp only [List.set_cons_zero, List.set_cons_succ, List.getElem?_cons_zero, List.getElem?_cons_succ] at c0 c1
  generalize ((w1.setCell { block := w.heap.size, off := 0 } (Value.slice none 0 0)).setCell { block := w.heap.size, off := 1 } (Value.slice none 0 0)).alloc (Obj.cells #[Value.slice none 0 0, Value.slice none 0 0] 43) = W at *
  refine bodyPost_ret (v := .tuple #[.agg #[.slice none 0 0, .slice none 0 0], .bool false]) (img_results rfl rfl c0 c1) rfl ?_
  refine ⟨.slice none 0 0, .slice none 0 0, by rw [HO.out]; rfl, (fun h => by rw [HO.out] at h; simp at h), (fun k h => by simp [Value.ownBlock] at h), (fun k h => by simp [Value.ownBlock] at h), hb2⟩

set_option maxHeartbeats 4000000 in
set_option maxRecDepth 100000 in
theorem shown_on (w : World) (A : List Nat) (g : Nat) (d : Dk) (N : Nat) (h : Hd w A g d N) (hN : N < 4294967296) (hoff : d.off = false) : Calls Tryz.prog 17 #[.pointer (some ⟨g, 0, none⟩)] w (ShownPost d w) := by
  have hS : Below w.heap.size w (w.alloc (.cells #[.slice none 0 0, .slice none 0 0] 43)) := (Below.refl _ w).alloc (Nat.le_refl _) _
  have hL := List_hd (h.below hS) hN [] (by simp)
  unfold ListPost at hL
  rw [if_neg (by simp [hoff])] at hL
  simp only [dlist_all hoff, errV_none] at hL
  have hB := Blk.new w [.slice none 0 0, .slice none 0 0] 43
  obtain ⟨L0, hd1, hd2, hd3, hd4, hd5⟩ := id h
  have hnl := hd1.now.nameLen
  have hdl := hd3.data
  have hnow := hd3.now
  have hrise := hd2.now
  clear hd1 hd2 hd3 hd4 hd5 L0
  obtain ⟨i0, hi, hz0, hz1, hz2⟩ := info_parts infoStr
  have hnow2 : d.now.length < 4294967296 := by omega
  have hsh1 : (dshown d).1.length = d.now.length := by unfold dshown tnames; simp
  have hsh2 : (dshown d).2.length = d.now.length := by unfold dshown; simp
  have HL := Lib.hid hL
  have HO := Lib.hid hoff
  have HS := Lib.hid hS
  have HB := Lib.hid hB
  have HH := Lib.hid h
  have HR := Lib.hid hrise
  have HNL := Lib.hid hnl
  have S1 := Lib.hid hsh1
  have S2 := Lib.hid hsh2
  clear hL hoff hS h hB hrise hnl hsh1 hsh2
  generalize hns : (dshown d).1 = ns at *
  generalize hds : (dshown d).2 = ds at *
  have HNS := Lib.hid hns
  have HDS := Lib.hid hds
  clear hns hds
  go_enter Tryz.func17, Tryz.ntmps17
  go_wp2_with (fail)
  refine HL.out.mono ?_
  rintro e w1 ⟨v, rfl, hr, hn, hb⟩
  obtain ⟨sa, sc, rfl, hsn⟩ := row_open hr
  have hb1 : Blk w1 w.heap.size [.slice none 0 0, .slice none 0 0] 43 := HB.out.below hb (by simp)
  have hw1 : w.heap.size < w1.heap.size := hb1.lt
  have hb0 : Below w.heap.size w w1 := HS.out.trans (hb.mono (by simp))
  have HB1 := Lib.hid hb1
  have HB0 := Lib.hid hb0
  have HRN := Lib.hid hr
  have HSN := Lib.hid hsn
  have hx := Blk.new w1 [.slice none 0 0, .slice none 0 0] 43
  have x0 := hx.cell 0
  have x1 := hx.cell 1
  have HX := Lib.hid hx
  simp only [List.getElem?_cons_zero, List.getElem?_cons_succ] at x0 x1
  clear hr hn hb hsn hb1 hb0 hx
  go_wp2_with (fail)
  have hd0 := Blk.new w1 [.slice sa ns.length sc, .slice none 0 0] 43
  have hbx : Below w1.heap.size w1 (w1.alloc (.cells #[Value.slice sa ns.length sc, Value.slice none 0 0] 43)) := (Below.refl _ w1).alloc (Nat.le_refl _) _
  have HD0 := Lib.hid hd0
  have HBX := Lib.hid hbx
  clear hd0 hbx x0 x1
  go_loopw [7] (fun iv wr => ∃ k u, iv = .int .i64 (k : Nat) ∧ k ≤ ns.length ∧ Blk wr w1.heap.size [.slice sa ns.length sc, u] 43 ∧ wr.ownsRow (w1.heap.size + 1) 9 1 u k ((ds.take k).map strV) ∧ Below w1.heap.size w1 wr) (fun iv _ => ns.length - (intOf iv).toNat)
  case atStart => exact ⟨0, _, rfl, Nat.zero_le _, HD0.out, World.ownsRow_nil _ _ _ _, HBX.out⟩
  case round =>
    obtain ⟨k, u, rfl, hkn, hblk, hown, hbel⟩ := hrel
    have hzr := hblk.lt
    by_cases hlt : k < ns.length
    · obtain ⟨nm, hx⟩ : ∃ x, ns[k]? = some x := ⟨_, List.getElem?_eq_getElem hlt⟩
      obtain ⟨gs, rfl, hsc, hgs⟩ := HSN.out k (strV nm) (by rw [List.getElem?_map, hx]; rfl)
      have hgb := HRN.out.lt gs hgs
      have hnc := (hbel.cell (p := ⟨gs, k, none⟩) hgb.2).trans hsc
      obtain ⟨dk, hdk, hrd⟩ := dread_shown HO.out HR.out (by rw [HNS.out]; exact hx)
      rw [HDS.out] at hdk
      have hnml : nm.length ≤ 9223372036854775807 := by
        have h1 := HNL.out nm (by rw [← HNS.out] at hx; exact List.mem_of_getElem? hx)
        unfold maxLen at h1
        exact h1
      have hRd := Read_hd (HH.out.below (HB0.out.trans (hbel.mono (Nat.le_of_lt (Nat.lt_of_lt_of_le hw1 (Nat.le_refl _)))))) nm hnml
      rw [hrd] at hRd
      have htk : (ds.take (k + 1)).map strV = List.take k (List.map strV ds) ++ [strV dk] := by
        rw [List.take_add_one, hdk, ← List.map_take]; simp
      have x0 := hblk.cell 0
      have x1 := hblk.cell 1
      have f1 := hblk.free 1
      simp only [List.getElem?_cons_zero, List.getElem?_cons_succ, errV_none] at x0 x1 hRd
      have HRD := Lib.hid hRd
      have HTK := Lib.hid htk
      have HXN := Lib.hid hx
      have HDK := Lib.hid hdk
      have HGS := Lib.hid hgs
      have HBK := Lib.hid hblk
      have HBL := Lib.hid hbel
      have hkl : k < ds.length := by have := S1.out; have := S2.out; omega
      have hnz : ns.length < 4294967296 := by have := S1.out; omega
      clear hRd htk hx hdk hrd hsc hgs hgb hblk hbel
      go_wp2_with (first
        | (go_at_call 21; refine HRD.out.mono ?_; rintro e w4 ⟨rfl, rfl⟩)
        | (at_builtin; refine wpList_append_own _ rfl _ _ 37 rfl (w1.heap.size + 1) 9 i0 (strV []) 1 16 Tryz.underlying37 hi hz0 hz1 hz2 rfl (by decide) u k ((ds.take k).map strV) rfl (hown.alloc _) ⟨wr.heap.size, 0, none⟩ 1 1 [strV dk] rfl rfl ?c1 ?c2 ?c3 ?c4 ?c5 ?_))
      case c1 => exact World.news_of_block (cs := #[strV dk]) (t := 9) (fr := (0, 0)) (heap_alloc_new wr _)
      case c2 => intro u hu; simp at hu; subst hu; rfl
      case c3 => unfold maxLen; omega
      case c4 => omega
      case c5 => simp; omega
      intro v' w5 hown5 hgrow5 hv5
      obtain ⟨va, vc, rfl, -⟩ := row_open hown5
      have hne : some w1.heap.size ≠ u.ownBlock := fun e => by
        have := (hown.lt _ e.symm).1
        omega
      have hblk5 : Blk w5 w1.heap.size [.slice (some ⟨gs, 0, none⟩) ns.length sc, u] 43 := Blk.same (HBK.out.alloc _) (hgrow5.block _ (by simp; omega) hne)
      have hbel5 : Below w1.heap.size w1 w5 := (HBL.out.alloc (by omega) _).grown hgrow5 (by simp; omega) (fun j hj => by have := (hown.lt j hj).1; omega)
      have x0 := hblk5.cell 0
      have x1 := hblk5.cell 1
      have f1 := hblk5.free 1
      simp only [List.getElem?_cons_zero, List.getElem?_cons_succ] at x0 x1
      have HO5 := Lib.hid hown5
      have HB5 := Lib.hid hblk5
      have HBL5 := Lib.hid hbel5
      clear hown5 hgrow5 hv5 hown hblk5 hbel5 hne
      go_wp2
      go_roundw
      case rel =>
        refine ⟨k + 1, _, by go_num, by omega, HB5.out.set 1 _, ?_, HBL5.out.setCell (p := ⟨w1.heap.size, 1, none⟩) (Nat.le_refl _) _⟩
        rw [HTK.out]
        exact ownsRow_setCell_below HO5.out (Nat.lt_succ_self _) _
      case measure => simp [intOf]; omega
    · have hke : k = ns.length := by omega
      obtain ⟨ua, uc, rfl, -⟩ := row_open hown
      have HBK := Lib.hid hblk
      have HBL := Lib.hid hbel
      have HOW := Lib.hid hown
      have x0 := hblk.cell 0
      have x1 := hblk.cell 1
      have hb1' := HB1.out.below hbel hw1
      have y0 := hb1'.cell 0
      have y1 := hb1'.cell 1
      have g0 := hb1'.free 0
      have g1 := hb1'.free 1
      have HB1' := Lib.hid hb1'
      have HKE := Lib.hid hke
      simp only [List.getElem?_cons_zero, List.getElem?_cons_succ] at x0 x1 y0 y1
      clear hblk hbel hown hke hb1'
      go_wp2
      have hF := (HB1'.out.set 0 (.slice sa ns.length sc)).set 1 (.slice ua k uc)
      have c0 := hF.cell 0
      have c1 := hF.cell 1
      simp only [List.set_cons_zero, List.set_cons_succ, List.getElem?_cons_zero, List.getElem?_cons_succ] at c0 c1
      have hown2 := ownsRow_setCell_below (ownsRow_setCell_below HOW.out (a := ⟨w.heap.size, 0, none⟩) (by simp; omega) (.slice sa ns.length sc)) (a := ⟨w.heap.size, 1, none⟩) (by simp; omega) (.slice ua k uc)
      have hrn2 := ownsRow_setCell_below (ownsRow_setCell_below (row_below HRN.out HBL.out) (a := ⟨w.heap.size, 0, none⟩) (by simp) (.slice sa ns.length sc)) (a := ⟨w.heap.size, 1, none⟩) (by simp) (.slice ua k uc)
      have hb2 : Below w.heap.size w ((wr.setCell { block := w.heap.size, off := 0 } (Value.slice sa ns.length sc)).setCell { block := w.heap.size, off := 1 } (Value.slice ua k uc)) := ((HB0.out.trans (HBL.out.mono (by omega))).setCell (p := ⟨w.heap.size, 0, none⟩) (Nat.le_refl _) _).setCell (p := ⟨w.heap.size, 1, none⟩) (Nat.le_refl _) _
      generalize (wr.setCell { block := w.heap.size, off := 0 } (Value.slice sa ns.length sc)).setCell { block := w.heap.size, off := 1 } (Value.slice ua k uc) = W at *
      refine bodyPost_ret (v := .tuple #[.agg #[.slice sa ns.length sc, .slice ua k uc], .bool true]) (img_results rfl rfl c0 c1) rfl ?_
      have htk : List.map strV (ds.take k) = ds.map strV := by rw [List.take_of_length_le (by have := HKE.out; have := S1.out; have := S2.out; omega)]
      rw [htk] at hown2
      refine ⟨_, _, by rw [HO.out]; rfl, (fun _ => ⟨by rw [HNS.out]; exact RowAt.of_row hrn2, by rw [HDS.out]; exact RowAt.of_row hown2⟩), (fun k h => ?_), (fun k h => ?_), hb2⟩
      · have := hrn2.lt k h
        simp at this
        omega
      · have := hown2.lt k h
        omega
theorem shown_any (w : World) (A : List Nat) (g : Nat) (d : Dk) (N : Nat) (h : Hd w A g d N) (hN : N < 4294967296) : Calls Tryz.prog 17 #[.pointer (some ⟨g, 0, none⟩)] w (ShownPost d w) := by
  cases hoff : d.off with
  | true => exact shown_off w A g d N h hN hoff
  | false => exact shown_on w A g d N h hN hoff
end Go.Proofs.YtfgpigblnkanpaaGreatDoor
