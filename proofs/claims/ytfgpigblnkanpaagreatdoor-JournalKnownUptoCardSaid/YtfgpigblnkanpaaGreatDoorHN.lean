/- The document's disk: Do, of create. The document's disk: Do, of write. The document's disk: Do, of sync. The document's disk: Do, of rename. The document's disk: Do, of remove. The document's disk: Do, of flush. -/
import Derived.Test.YtfgpigblnkanpaaGreatDoorGI
import Derived.Deep.DeepCutAuto
import Derived.StillTailTactics
import Derived.Deep.RegionWith
import Derived.Deep.AppendLies
import Derived.Deep.RegionLaw
namespace Go.Proofs.YtfgpigblnkanpaaGreatDoor
open Go.RowKit Go.Maps Go.Shelf
set_option linter.unusedVariables false
set_option linter.unusedSimpArgs false

set_option maxHeartbeats 8000000 in
set_option maxRecDepth 100000 in
theorem rDo_create (w : World) (A : List Nat) (g : Nat) (d : Dk) (N : Nat) (n : Nm) (tx0 : List UInt8) (h : Rd2 w A g d N) (hN : N + 1 ≤ 1073741824) (ho : odSmall (.create n)) (htl : tx0.length ≤ 140737488355328) :
    Calls Tryz.prog 70 #[.pointer (some ⟨g, 0, none⟩), .agg #[.int .i64 1, strV [], strV n, .int .i64 0], strV tx0] w (RdDo g d (.create n) N A w) := by
  obtain ⟨fv, nv, sv, pv, kv, h1, h2, h3, h4⟩ := h
  have hB := h2.refB (by omega)
  have hoo : odOk (.create n) := by show n.length ≤ _; have h9 : n.length ≤ 140737488355328 := ho; omega
  have hgl := h1.blk.lt
  have hgb : g ≠ w.heap.size := by omega
  have hbx := Blk.new w [.int .i64 1, strV [], strV n, .int .i64 0] 122
  have y0 := hbx.cell 0
  have y1 := hbx.cell 1
  have y2 := hbx.cell 2
  have y3 := hbx.cell 3
  simp only [List.getElem?_cons_zero, List.getElem?_cons_succ] at y0 y1 y2 y3
  have hW : Below w.heap.size w (w.alloc (.cells ([.int .i64 1, strV [], strV n, .int .i64 0] : List Value).toArray 122)) := (Below.refl _ w).alloc (Nat.le_refl _) _
  have hWR := h1.below hW
  obtain ⟨c0, c1, c2, c3, c4, c5, c6, c7⟩ := hWR.cells
  have HN2 := Lib.hid h2
  have HOO := Lib.hid hoo
  have HA4 := Lib.hid h4
  by_cases hoff : d.off = true
  · have hres : RdDo g d (.create n) N A w (.returned (.int .i64 20)) (w.alloc (.cells ([.int .i64 1, strV [], strV n, .int .i64 0] : List Value).toArray 122)) := RdDo.off hoff h2 (RdMid.start h1 h3 h4 hW)
    rw [hoff] at c0
    have HRES := Lib.hid hres
    clear h1 h2 h3 h4 hB hoo hbx hW hWR hoff hres
    go_enter Tryz.func70, Tryz.ntmps70
    go_wp2
    go_ret
    exact HRES.out
  · have hoff' : d.off = false := by simpa using hoff
    rw [hoff'] at c0
    have hrf := rRefused_any _ g fv nv sv pv kv d (.create n) [] tx0 hWR hB ho (fun n' s' e' => by cases e' <;> rfl) hoff' htl
    have HST := Lib.hid fun wc hb => DoA.start (wc := wc) (cs := [.int .i64 1, strV [], strV n, .int .i64 0]) h1 h3 h4 hb
    have HOFF := Lib.hid hoff'
    have har : d.armed ≤ 9223372036854775807 := h2.bd.armed
    clear h1 h2 h3 h4 hB hoo hbx hW hWR hoff hoff' c1 c2 c3 c4 c5 c6 c7
    by_cases hr : drefused d (.create n) = 0
    · have HRR := Lib.hid hr
      rw [hr] at hrf
      have HREF := Lib.hid hrf
      clear hr hrf
      go_enter Tryz.func70, Tryz.ntmps70
      go_wp2_with (fail)
      refine HREF.out.mono ?_
      rintro e w1 ⟨rfl, hb1⟩
      have hD := HST.out w1 hb1
      have f6 := hD.ref.blk.free 6
      obtain ⟨-, -, -, -, -, -, c6, -⟩ := hD.ref.cells
      have HD1 := Lib.hid hD
      clear hD hb1 HST HREF y0 y1 y2 y3 c0
      go_upto_if 31 with (fail)
      go_cut [8] (fun s8 wc => s8 = .bool (decide (d.armed = 1)) ∧ Hid (DoA w wc A g w.heap.size [.int .i64 1, strV [], strV n, .int .i64 0] fv nv sv pv kv { d with armed := d.armed - 1 }))
      case first =>
        by_cases ha0 : d.armed = 0
        · have i0 : ¬ (0 : Int) < (d.armed : Int) := by omega
          go_wp2_with (fail)
          go_meet
          refine ⟨?_, ?_⟩
          · simp [ha0]
          · have h5 := HD1.out
            have e5 : ({ d with armed := d.armed - 1 } : Dk) = d := by rw [ha0]; cases d; simp at ha0; subst ha0; rfl
            rw [e5]
            exact h5
        · have i0 : (0 : Int) < (d.armed : Int) := by omega
          have hw : IntKind.i64.wrap ((d.armed : Int) - 1) = ((d.armed - 1 : Nat) : Int) := by rw [IntWalk.i64_in _ (by omega)]; omega
          go_wp2_with (fail)
          go_meet
          refine ⟨?_, ?_⟩
          · by_cases ha1 : d.armed = 1
            · simp [ha1]
            · simp [ha1]; omega
          · exact HD1.out.arm _
      case rest =>
        clear c6 f6 HD1
        obtain ⟨rfl, HC⟩ := hcut
        have hD := HC.out
        have hnow : TabAt wc nv d.now := hD.ref.now
        obtain ⟨p, hp⟩ := AtPost.there d.now n
        have HA := rAt_at (w := wc.drew) (hnow.below ((Below.refl _ _).drew)) HN2.out.ok.now (by have := HN2.out.bd.now; omega) hp
        have hfl0 : d.files.length ≤ 1073741824 := by have := HN2.out.bd.files; omega
        have hpl0 : d.pend.length ≤ 1073741824 := by have := HN2.out.bd.safe; omega
        have hnl0 : d.now.length ≤ 1073741824 := by have := HN2.out.bd.now; omega
        have y0 := hD.box.cell 0
        have y2 := hD.box.cell 2
        have y3 := hD.box.cell 3
        have b3 := hD.box.free 3
        simp only [List.getElem?_cons_zero, List.getElem?_cons_succ] at y0 y2 y3
        obtain ⟨-, -, c2, c3, -, -, -, -⟩ := hD.ref.cells
        obtain ⟨fa, fc, hfv⟩ := row_shape hD.ref.files
        change fv = .slice fa d.files.length fc at hfv
        obtain ⟨na, nc, hnv, -⟩ := hnow
        subst hfv hnv
        have hD2 := (hD.box3 3 (.int .i64 (d.files.length : Nat)) (Nat.le_refl _) HA4.out).below ((Below.refl _ _).drew)
        have HD2 := Lib.hid hD2
        clear hD hD2 HC hp
        go_upto_region 9 with (fail)
        refine wp_region_still_lit (by kernel_rfl) (by kernel_rfl) ?_
        repeat still_step
        still_call HA
        repeat still_step
        refine wpStill_nil ?_
        clear HA
        go_upto_region 13 with (fail)
        generalize hV : (wc.setCell ⟨w.heap.size, 3, none⟩ (.int .i64 (d.files.length : Nat))).drew = V at *
        clear y0 y2 y3 b3 c2 c3 hV
        have hD3 := HD2.out
        obtain ⟨i0, hi, hz0, hz1, hz2⟩ := info_parts infoFileR
        obtain ⟨-, -, c2, -, -, -, -, -⟩ := hD3.ref.cells
        have hown : V.ownsRow 0 162 2 (.slice fa d.files.length fc) d.files.length (cellsF d.files) := hD3.ref.files
        have hDa := hD3.below ((Below.refl V.heap.size V).alloc (Nat.le_refl _) (.cells #[strV [], .int .i64 0] 162))
        have HDA := Lib.hid hDa
        have HFR := Lib.hid hD3.ref.gf
        clear hD3 hDa HD2
        go_wp2_with (at_builtin; refine wpList_append_own_at _ rfl _ _ 115 rfl 0 162 i0 (.agg #[strV [], .int .i64 0]) 2 24 Tryz.underlying115 hi hz0 hz1 hz2 rfl (by omega) _ d.files.length (cellsF d.files) rfl (hown.alloc _) ⟨V.heap.size, 0, none⟩ 1 1 [strV [], .int .i64 0] rfl rfl ?c1 ?c2 ?c3 ?c4 ?c5 ?_)
        case c1 => exact World.news_of_block (cs := #[strV [], .int .i64 0]) (t := 162) (fr := (0, 0)) (heap_alloc_new V _)
        case c2 => simp [Value.oneCell']
        case c3 => unfold maxLen; omega
        case c4 => omega
        case c5 => exact Nat.zero_le _
        intro v5 w5 hown5 hgrow5 hv5 hpl5
        have hDB := HDA.out
        have hgw := hgrow5.block g hDB.ref.blk.lt (fun e => HFR.out e.symm)
        have q5 := hDB.ref.blk.same hgw
        have f2 := q5.free 2
        have d2 := q5.cell 2
        simp only [List.getElem?_cons_zero, List.getElem?_cons_succ] at d2
        have hD5 := hDB.addFile hgrow5 hown5 (hpl5.imp id fun e => e.trans (by simp))
        have HD5 := Lib.hid hD5
        obtain ⟨va, vc, hve⟩ := row_shape hown5
        subst hve
        clear hDB hgw q5 hD5 hown5 hgrow5 hv5 hpl5 hown HDA HFR c2
        go_upto_region 24 with (fail)
        generalize hW6 : w5.setCell ⟨g, 2, none⟩ _ = w6 at *
        clear hW6 f2 d2
        have HD6 := HD5
        clear HD5
        have hD6 := HD6.out
        have y0 := hD6.box.cell 0
        have y1 := hD6.box.cell 1
        have y2 := hD6.box.cell 2
        have y3 := hD6.box.cell 3
        simp only [List.set_cons_succ, List.set_cons_zero, List.getElem?_cons_zero, List.getElem?_cons_succ] at y0 y1 y2 y3
        obtain ⟨-, -, -, c3, -, -, -, -⟩ := hD6.ref.cells
        have hnw : TabAt w6 (.slice na d.now.length nc) d.now := hD6.ref.now
        have hgl6 := hD6.ref.blk.lt
        have hbl6 := hD6.box.lt
        have HDN := Lib.hid fun W (hb : Below w6.heap.size w6 W) => rDone_any W (.slice na d.now.length nc) d.now (.cr n d.files.length) (hnw.below hb) HN2.out.ok.now (by omega) (show d.files.length ≤ _ from by omega) (fun x hx => by have := HN2.out.ok.nowIn x hx; omega)
        unfold opCells at HDN
        have HBX := Lib.hid hD6.box
        have HBG := Lib.hid hD6.ref.blk
        have HACT := Lib.hid fun v w2 (hb : Below w6.heap.size w6 w2) ht hv => hD6.layNow (wd := w2) hb (v := v) (t := tdone d.now (.cr n d.files.length)) ht hv
        clear hD6 hnw
        go_upto_if 138 with (fail)
        go_cut [9] (fun s9 wd => Hid (∃ fv' nv' pv', DoA w wd A g w.heap.size ([.int .i64 1, strV [], strV n, .int .i64 0].set 3 (.int .i64 (d.files.length : Nat))) fv' nv' sv pv' kv (dact { d with armed := d.armed - 1 } true (.create n))))
        case first =>
         go_upto_region 25 with (fail)
         go_region_with (first
           | (go_at_call 122; refine (HDN.out _ (Below.refl _ _).drew).mono ?_; rintro e w7 ⟨v7, rfl, hT7, hv7, hbl7⟩; have f3 := (HBG.out.below (below_undrew hbl7) hgl6).free 3; have e3 := (HBG.out.below (below_undrew hbl7) hgl6).cell 3; simp only [List.getElem?_cons_zero, List.getElem?_cons_succ] at e3; have HA2 := Lib.hid (HACT.out v7 w7 (below_undrew hbl7) hT7 hv7); obtain ⟨va7, vc7, rfl, -⟩ := hT7; clear hv7 hbl7))
         all_goals
           clear HDN HACT HBX HBG y0 y1 y2 y3 c3
           go_upto_region 26 with (fail)
           generalize hW8 : w7.setCell ⟨g, 3, none⟩ _ = w8 at *
           clear hW8 f3 e3
           have hD8 := HA2.out
           have hpnd : w8.ownsRow 0 122 4 pv d.pend.length (cellsO d.pend) := hD8.ref.pend
           obtain ⟨pa, pc, hpe⟩ := row_shape hpnd
           subst hpe
           have y0 := hD8.box.cell 0
           have y1 := hD8.box.cell 1
           have y2 := hD8.box.cell 2
           have y3 := hD8.box.cell 3
           simp only [List.set_cons_succ, List.set_cons_zero, List.getElem?_cons_zero, List.getElem?_cons_succ] at y0 y1 y2 y3
           obtain ⟨-, -, -, -, -, c5, -, -⟩ := hD8.ref.cells
           obtain ⟨i1, hi1, hy0, hy1, hy2⟩ := info_parts infoOpR
           have HD8 := Lib.hid hD8
           have hgl8 := hD8.ref.blk.lt
           clear hD8 HA2
           go_region_law (first
             | (refine step_append_lies _ rfl (.tmp 152) (.tmp 154) 117 rfl 0 122 i1 (.agg #[.int .i64 0, strV [], strV [], .int .i64 0]) 4 48 Tryz.underlying117 hi1 hy0 hy1 hy2 rfl (by decide) (.slice pa d.pend.length pc) d.pend.length (cellsO d.pend) (by simp [Act.eval, Act.put]) ((hpnd.alloc _).drew) ⟨w8.heap.size, 0, none⟩ 1 1 [.int .i64 1, strV [], strV n, .int .i64 (d.files.length : Nat)] (by simp [Act.eval, Act.put]) rfl (World.news_of_block (cs := #[.int .i64 1, strV [], strV n, .int .i64 (d.files.length : Nat)]) (t := 122) (fr := (0, 0)) (heap_alloc_new w8 _)) (by simp [Value.oneCell']) (by omega) (by unfold maxLen; omega) (by omega) (Nat.zero_le _) (w8.heap.size + 1) (by simp) ?_; intro g9 cap9 w9 hown9 hgrow9 hpl9 hlt9; have hDp := HD8.out.below (((Below.refl w8.heap.size w8).alloc (Nat.le_refl _) (.cells #[.int .i64 1, strV [], strV n, .int .i64 (d.files.length : Nat)] 122)).drew); have hgw9 := hgrow9.block g hDp.ref.blk.lt (fun e => hDp.ref.gp e.symm); have q9 := hDp.ref.blk.same hgw9; have f5 := q9.free 5; have e5 := q9.cell 5; simp only [List.getElem?_cons_zero, List.getElem?_cons_succ] at e5; have HDZ := Lib.hid (hDp.addPend (p := .cr n d.files.length) (pv' := .slice (some ⟨g9, 0, none⟩) (d.pend.length + 1) cap9) hgrow9 hown9 (by rcases hpl9 with e | e; exact Or.inl e.symm; exact Or.inr (by rw [e]; simp [Value.ownBlock]))); clear hDp hgw9 q9 hown9 hgrow9 hpl9 hlt9))
           all_goals
             go_wp2_with (fail)
             go_meet
             exact ⟨_, _, _, HDZ.out⟩
        case rest =>
         clear HDN HACT HBX HBG y0 y1 y2 y3 c3
         have HZ := hcut
         obtain ⟨fv', nv', pv', hz⟩ := HZ.out
         have HZT := Lib.hid fun (_ : d.armed = 1) => hz
         have HZF : Hid (d.armed ≠ 1 → DoA w wc A g w.heap.size ([.int .i64 1, strV [], strV n, .int .i64 0].set 3 (.int .i64 (d.files.length : Nat))) fv' nv' sv pv' kv (dact { d with armed := d.armed - 1 } false (.create n))) := fun _ => hz
         clear hz HZ hcut
         by_cases hst : d.armed = 1
         · have hsb : decide (d.armed = 1) = true := by simp [hst]
           have hDz := HZT.out hst
           have HFC := Lib.hid (rFail_mid hDz.ref (HN2.out.stroke true (.create n) HOO.out HOFF.out HRR.out) hN)
           obtain ⟨-, -, -, -, -, -, -, c7⟩ := hDz.ref.cells
           have hfe : (dact { d with armed := d.armed - 1 } true (.create n)).fate = d.fate := dact_fate _ _ _
           rw [hfe] at HFC
           have HFIN := Lib.hid fun (e : Ending) (w' : World) hp => RdDo.struck HOFF.out HRR.out hst HN2.out HOO.out (RFailPost.mid (keep := d.fate) (e := e) (w' := w') hDz.stp hDz.lt hp)
           clear hDz HZT HZF hfe
           go_wp2_with (fail)
           refine HFC.out.mono ?_
           rintro e w9 hp9
           have e9 := hp9.1
           have hres := HFIN.out _ _ hp9
           subst e9
           have HRES := Lib.hid hres
           clear hp9 hres HFIN HFC
           go_wp2
           go_ret
           exact HRES.out
         · have hsb : decide (d.armed = 1) = false := by simp [hst]
           have hDz := HZF.out hst
           have HRES := Lib.hid (RdDo.calm HOFF.out HRR.out hst HN2.out HOO.out hDz.mid)
           clear hDz HZT HZF
           go_wp2
           go_ret
           exact HRES.out
    · have HRES := Lib.hid fun (w1 : World) (h : DoA w w1 A g w.heap.size [.int .i64 1, strV [], strV n, .int .i64 0] fv nv sv pv kv d) => RdDo.no (o := .create n) HOFF.out hr HN2.out h.mid
      generalize drefused d (.create n) = rr at *
      have i0 : ¬ ((rr : Int) = 0) := by omega
      have i1 : ((rr : Int) == 0) = false := by simp; omega
      have HREF := Lib.hid hrf
      clear hr hrf
      go_enter Tryz.func70, Tryz.ntmps70
      go_wp2_with (fail)
      refine HREF.out.mono ?_
      rintro e w1 ⟨rfl, hb1⟩
      have hres := HRES.out w1 (HST.out w1 hb1)
      have HR2 := Lib.hid hres
      clear hres hb1 HST HREF HRES y0 y1 y2 y3 c0
      go_wp2
      go_ret
      exact HR2.out
end Go.Proofs.YtfgpigblnkanpaaGreatDoor

namespace Go.Proofs.YtfgpigblnkanpaaGreatDoor
open Go.RowKit Go.Maps Go.Shelf
set_option linter.unusedVariables false
set_option linter.unusedSimpArgs false

set_option maxHeartbeats 8000000 in
set_option maxRecDepth 100000 in
theorem rDo_write (w : World) (A : List Nat) (g : Nat) (d : Dk) (N : Nat) (n : Nm) (tx : List UInt8) (h : Rd2 w A g d N) (hN : N + 1 ≤ 1073741824) (ho : odSmall (.write n tx)) (htl : tx.length ≤ 140737488355328) :
    Calls Tryz.prog 70 #[.pointer (some ⟨g, 0, none⟩), .agg #[.int .i64 2, strV [], strV n, .int .i64 0], strV tx] w (RdDo g d (.write n tx) N A w) := by
  obtain ⟨fv, nv, sv, pv, kv, h1, h2, h3, h4⟩ := h
  have hB := h2.refB (by omega)
  have hoo : odOk (.write n tx) := ⟨by have h9 := ho.1; omega, by have h9 := ho.2; omega⟩
  have hgl := h1.blk.lt
  have hgb : g ≠ w.heap.size := by omega
  have hbx := Blk.new w [.int .i64 2, strV [], strV n, .int .i64 0] 122
  have y0 := hbx.cell 0
  have y1 := hbx.cell 1
  have y2 := hbx.cell 2
  have y3 := hbx.cell 3
  simp only [List.getElem?_cons_zero, List.getElem?_cons_succ] at y0 y1 y2 y3
  have hW : Below w.heap.size w (w.alloc (.cells ([.int .i64 2, strV [], strV n, .int .i64 0] : List Value).toArray 122)) := (Below.refl _ w).alloc (Nat.le_refl _) _
  have hWR := h1.below hW
  obtain ⟨c0, c1, c2, c3, c4, c5, c6, c7⟩ := hWR.cells
  have HN2 := Lib.hid h2
  have HOO := Lib.hid hoo
  have HA4 := Lib.hid h4
  by_cases hoff : d.off = true
  · have hres : RdDo g d (.write n tx) N A w (.returned (.int .i64 20)) (w.alloc (.cells ([.int .i64 2, strV [], strV n, .int .i64 0] : List Value).toArray 122)) := RdDo.off hoff h2 (RdMid.start h1 h3 h4 hW)
    rw [hoff] at c0
    have HRES := Lib.hid hres
    clear h1 h2 h3 h4 hB hoo hbx hW hWR hoff hres
    go_enter Tryz.func70, Tryz.ntmps70
    go_wp2
    go_ret
    exact HRES.out
  · have hoff' : d.off = false := by simpa using hoff
    rw [hoff'] at c0
    have hrf := rRefused_any _ g fv nv sv pv kv d (.write n tx) [] tx hWR hB ho (fun n' s' e' => by cases e' <;> rfl) hoff' htl
    have HST := Lib.hid fun wc hb => DoA.start (wc := wc) (cs := [.int .i64 2, strV [], strV n, .int .i64 0]) h1 h3 h4 hb
    have HOFF := Lib.hid hoff'
    have har : d.armed ≤ 9223372036854775807 := h2.bd.armed
    clear h1 h2 h3 h4 hB hoo hbx hW hWR hoff hoff' c1 c2 c3 c4 c5 c6 c7
    by_cases hr : drefused d (.write n tx) = 0
    · have HRR := Lib.hid hr
      rw [hr] at hrf
      have HREF := Lib.hid hrf
      clear hr hrf
      go_enter Tryz.func70, Tryz.ntmps70
      go_wp2_with (fail)
      refine HREF.out.mono ?_
      rintro e w1 ⟨rfl, hb1⟩
      have hD := HST.out w1 hb1
      have f6 := hD.ref.blk.free 6
      obtain ⟨-, -, -, -, -, -, c6, -⟩ := hD.ref.cells
      have HD1 := Lib.hid hD
      clear hD hb1 HST HREF y0 y1 y2 y3 c0
      go_upto_if 31 with (fail)
      go_cut [8] (fun s8 wc => s8 = .bool (decide (d.armed = 1)) ∧ Hid (DoA w wc A g w.heap.size [.int .i64 2, strV [], strV n, .int .i64 0] fv nv sv pv kv { d with armed := d.armed - 1 }))
      case first =>
        by_cases ha0 : d.armed = 0
        · have i0 : ¬ (0 : Int) < (d.armed : Int) := by omega
          go_wp2_with (fail)
          go_meet
          refine ⟨?_, ?_⟩
          · simp [ha0]
          · have h5 := HD1.out
            have e5 : ({ d with armed := d.armed - 1 } : Dk) = d := by rw [ha0]; cases d; simp at ha0; subst ha0; rfl
            rw [e5]
            exact h5
        · have i0 : (0 : Int) < (d.armed : Int) := by omega
          have hw : IntKind.i64.wrap ((d.armed : Int) - 1) = ((d.armed - 1 : Nat) : Int) := by rw [IntWalk.i64_in _ (by omega)]; omega
          go_wp2_with (fail)
          go_meet
          refine ⟨?_, ?_⟩
          · by_cases ha1 : d.armed = 1
            · simp [ha1]
            · simp [ha1]; omega
          · exact HD1.out.arm _
      case rest =>
        clear c6 f6 HD1
        obtain ⟨rfl, HC⟩ := hcut
        have hD := HC.out
        have hnow : TabAt wc nv d.now := hD.ref.now
        obtain ⟨p, hp⟩ := AtPost.there d.now n
        have HA := rAt_at (w := wc.drew) (hnow.below ((Below.refl _ _).drew)) HN2.out.ok.now (by have := HN2.out.bd.now; omega) hp
        have hfl0 : d.files.length ≤ 1073741824 := by have := HN2.out.bd.files; omega
        have hpl0 : d.pend.length ≤ 1073741824 := by have := HN2.out.bd.safe; omega
        have hnl0 : d.now.length ≤ 1073741824 := by have := HN2.out.bd.now; omega
        have y0 := hD.box.cell 0
        have y1 := hD.box.cell 1
        have y2 := hD.box.cell 2
        have y3 := hD.box.cell 3
        simp only [List.getElem?_cons_zero, List.getElem?_cons_succ] at y0 y1 y2 y3
        obtain ⟨-, -, c2, c3, -, -, -, -⟩ := hD.ref.cells
        obtain ⟨fa, fc, hfv⟩ := row_shape hD.ref.files
        change fv = .slice fa d.files.length fc at hfv
        obtain ⟨na, nc, hnv, hnx⟩ := hnow
        subst hfv hnv
        have HDD := Lib.hid (hD.below ((Below.refl wc.heap.size wc).drew))
        have hsome : ∃ (k : Nat) (f : Nat), p = (k : Int) ∧ d.now[k]? = some (n, f) ∧ tget d.now n = some f := by
          rcases hp with ⟨_, h0⟩ | ⟨k, f, h1, h2, h3⟩
          · exfalso
            have h9 := HRR.out
            simp [drefused, h0] at h9
          · exact ⟨k, f, h1, h2, h3⟩
        obtain ⟨k, f, rfl, htk, hget⟩ := hsome
        have HGET := Lib.hid hget
        have hfi : f < d.files.length := HN2.out.ok.nowIn _ (tget_mem hget)
        obtain ⟨qb, qo, rfl, k0, k1⟩ := hnx k _ htk
        have hkl := (List.getElem?_eq_some_iff.1 htk).1
        obtain ⟨fb, fcap, hfe, f0, f1⟩ := hD.ref.file hfi
        simp only [Value.slice.injEq] at hfe
        obtain ⟨rfl, -, rfl⟩ := hfe
        have fz := fun j => hD.ref.files.frozenAt j
        have ik0 : (0 : Int) ≤ (k : Int) := by omega
        have ik1 : (k : Int) < (d.now.length : Int) := by omega
        have ik2 : (0 : Int) ≤ (f : Int) := by omega
        have ik3 : (f : Int) < (d.files.length : Int) := by omega
        simp only at k0 k1 f0 f1
        clear hD HC hp htk hget hnx
        go_upto_region 9 with (fail)
        refine wp_region_still_lit (by kernel_rfl) (by kernel_rfl) ?_
        repeat still_step
        still_call HA
        repeat still_step
        refine wpStill_nil ?_
        clear HA
        go_upto_region 15 with (fail)
        have e2 : wc.drew.cell? ⟨g, 2, none⟩ = _ := c2
        have e3 : wc.drew.cell? ⟨g, 3, none⟩ = _ := c3
        have e5 : wc.drew.cell? ⟨qb, qo + k * 2 + 1, none⟩ = _ := k1
        have e6 : wc.drew.cell? ⟨fb, f * 2, none⟩ = _ := f0
        have e7 : wc.drew.frozen? ⟨fb, f * 2, none⟩ = false := fz _
        have z0 : wc.drew.cell? ⟨w.heap.size, 0, none⟩ = _ := y0
        clear c2 c3 k0 k1 f0 f1 y0 y1 y2 y3 fz
        generalize hW6 : wc.drew = V at *
        clear hW6
        have hL := (HDD.out.layCell rfl (f * 2) (strV ((fat d.files f).data ++ tx)) (d.files.set f ⟨(fat d.files f).data ++ tx, (fat d.files f).safe⟩) (by simp) (cellsF_data d.files f _ hfi)).below ((Below.refl _ _).drew)
        have hZ : ∀ b, DoA w ((V.setCell ⟨fb, f * 2, none⟩ (.string (str ((fat d.files f).data ++ tx)))).drew) A g w.heap.size [.int .i64 2, strV [], strV n, .int .i64 0] (.slice (some ⟨fb, 0, none⟩) d.files.length fc) (.slice (some ⟨qb, qo, none⟩) d.now.length nc) sv pv kv (dact { d with armed := d.armed - 1 } b (.write n tx)) := fun b => by
          have e : dact { d with armed := d.armed - 1 } b (.write n tx) = { ({ d with armed := d.armed - 1 } : Dk) with files := d.files.set f ⟨(fat d.files f).data ++ tx, (fat d.files f).safe⟩ } := by
            show ({ ({ d with armed := d.armed - 1 } : Dk) with files := fmod d.files ((tget d.now n).getD 0) _ } : Dk) = _
            rw [HGET.out]
            rfl
          rw [e]
          exact hL
        have HZT := Lib.hid fun (_ : d.armed = 1) => hZ true
        have HZF := Lib.hid fun (_ : d.armed ≠ 1) => hZ false
        have z1 := (hZ true).box.cell 0
        simp only [List.getElem?_cons_zero] at z1
        clear hL hZ z0
        have hdl : (fat d.files f).data.length ≤ 268435456 := Nat.le_trans (fat_in d d.room HN2.out.bd.data f) HN2.out.bd.room
        generalize (fat d.files f).data = dt at *
        have hsz1 := str_size dt
        have hsz2 := str_size tx
        have happ := str_append dt tx
        have htr : tx.length ≤ 268435456 := by
          have h9 := HRR.out
          have h8 := HN2.out.bd.room
          simp [drefused, HGET.out] at h9
          omega
        have hsm : ¬ 9223372036854775807 < dt.length + tx.length := by omega
        refine wp_region_still_tail 19 (by kernel_rfl) (by kernel_rfl) ?_
        simp only [List.take_succ_cons, List.take_zero, List.drop_succ_cons, List.drop_zero]
        repeat still_step
        refine wpStill_nil ?_
        go_upto_region 24 with (fail)
        generalize (V.setCell ⟨fb, f * 2, none⟩ (.string (str (dt ++ tx)))).drew = w7 at *
        by_cases hst : d.armed = 1
        · have hsb : decide (d.armed = 1) = true := by simp [hst]
          have hDz := HZT.out hst
          have HFC := Lib.hid (rFail_mid hDz.ref (HN2.out.stroke true (.write n tx) HOO.out HOFF.out HRR.out) hN)
          obtain ⟨-, -, -, -, -, -, -, c7⟩ := hDz.ref.cells
          have hfe : (dact { d with armed := d.armed - 1 } true (.write n tx)).fate = d.fate := dact_fate _ _ _
          rw [hfe] at HFC
          have HFIN := Lib.hid fun (e : Ending) (w' : World) hp => RdDo.struck HOFF.out HRR.out hst HN2.out HOO.out (RFailPost.mid (keep := d.fate) (e := e) (w' := w') hDz.stp hDz.lt hp)
          clear hDz HZT HZF hfe
          go_wp2_with (fail)
          refine HFC.out.mono ?_
          rintro e w9 hp9
          have e9 := hp9.1
          have hres := HFIN.out _ _ hp9
          subst e9
          have HRES := Lib.hid hres
          clear hp9 hres HFIN HFC
          go_wp2
          go_ret
          exact HRES.out
        · have hsb : decide (d.armed = 1) = false := by simp [hst]
          have hDz := HZF.out hst
          have HRES := Lib.hid (RdDo.calm HOFF.out HRR.out hst HN2.out HOO.out hDz.mid)
          clear hDz HZT HZF
          go_wp2
          go_ret
          exact HRES.out
    · have HRES := Lib.hid fun (w1 : World) (h : DoA w w1 A g w.heap.size [.int .i64 2, strV [], strV n, .int .i64 0] fv nv sv pv kv d) => RdDo.no (o := .write n tx) HOFF.out hr HN2.out h.mid
      generalize drefused d (.write n tx) = rr at *
      have i0 : ¬ ((rr : Int) = 0) := by omega
      have i1 : ((rr : Int) == 0) = false := by simp; omega
      have HREF := Lib.hid hrf
      clear hr hrf
      go_enter Tryz.func70, Tryz.ntmps70
      go_wp2_with (fail)
      refine HREF.out.mono ?_
      rintro e w1 ⟨rfl, hb1⟩
      have hres := HRES.out w1 (HST.out w1 hb1)
      have HR2 := Lib.hid hres
      clear hres hb1 HST HREF HRES y0 y1 y2 y3 c0
      go_wp2
      go_ret
      exact HR2.out
end Go.Proofs.YtfgpigblnkanpaaGreatDoor

namespace Go.Proofs.YtfgpigblnkanpaaGreatDoor
open Go.RowKit Go.Maps Go.Shelf
set_option linter.unusedVariables false
set_option linter.unusedSimpArgs false

set_option maxHeartbeats 8000000 in
set_option maxRecDepth 100000 in
theorem rDo_sync (w : World) (A : List Nat) (g : Nat) (d : Dk) (N : Nat) (n : Nm) (tx0 : List UInt8) (h : Rd2 w A g d N) (hN : N + 1 ≤ 1073741824) (ho : odSmall (.sync n)) (htl : tx0.length ≤ 140737488355328) :
    Calls Tryz.prog 70 #[.pointer (some ⟨g, 0, none⟩), .agg #[.int .i64 3, strV [], strV n, .int .i64 0], strV tx0] w (RdDo g d (.sync n) N A w) := by
  obtain ⟨fv, nv, sv, pv, kv, h1, h2, h3, h4⟩ := h
  have hB := h2.refB (by omega)
  have hoo : odOk (.sync n) := by show n.length ≤ _; have h9 : n.length ≤ 140737488355328 := ho; omega
  have hgl := h1.blk.lt
  have hgb : g ≠ w.heap.size := by omega
  have hbx := Blk.new w [.int .i64 3, strV [], strV n, .int .i64 0] 122
  have y0 := hbx.cell 0
  have y1 := hbx.cell 1
  have y2 := hbx.cell 2
  have y3 := hbx.cell 3
  simp only [List.getElem?_cons_zero, List.getElem?_cons_succ] at y0 y1 y2 y3
  have hW : Below w.heap.size w (w.alloc (.cells ([.int .i64 3, strV [], strV n, .int .i64 0] : List Value).toArray 122)) := (Below.refl _ w).alloc (Nat.le_refl _) _
  have hWR := h1.below hW
  obtain ⟨c0, c1, c2, c3, c4, c5, c6, c7⟩ := hWR.cells
  have HN2 := Lib.hid h2
  have HOO := Lib.hid hoo
  have HA4 := Lib.hid h4
  by_cases hoff : d.off = true
  · have hres : RdDo g d (.sync n) N A w (.returned (.int .i64 20)) (w.alloc (.cells ([.int .i64 3, strV [], strV n, .int .i64 0] : List Value).toArray 122)) := RdDo.off hoff h2 (RdMid.start h1 h3 h4 hW)
    rw [hoff] at c0
    have HRES := Lib.hid hres
    clear h1 h2 h3 h4 hB hoo hbx hW hWR hoff hres
    go_enter Tryz.func70, Tryz.ntmps70
    go_wp2
    go_ret
    exact HRES.out
  · have hoff' : d.off = false := by simpa using hoff
    rw [hoff'] at c0
    have hrf := rRefused_any _ g fv nv sv pv kv d (.sync n) [] tx0 hWR hB ho (fun n' s' e' => by cases e' <;> rfl) hoff' htl
    have HST := Lib.hid fun wc hb => DoA.start (wc := wc) (cs := [.int .i64 3, strV [], strV n, .int .i64 0]) h1 h3 h4 hb
    have HOFF := Lib.hid hoff'
    have har : d.armed ≤ 9223372036854775807 := h2.bd.armed
    clear h1 h2 h3 h4 hB hoo hbx hW hWR hoff hoff' c1 c2 c3 c4 c5 c6 c7
    by_cases hr : drefused d (.sync n) = 0
    · have HRR := Lib.hid hr
      rw [hr] at hrf
      have HREF := Lib.hid hrf
      clear hr hrf
      go_enter Tryz.func70, Tryz.ntmps70
      go_wp2_with (fail)
      refine HREF.out.mono ?_
      rintro e w1 ⟨rfl, hb1⟩
      have hD := HST.out w1 hb1
      have f6 := hD.ref.blk.free 6
      obtain ⟨-, -, -, -, -, -, c6, -⟩ := hD.ref.cells
      have HD1 := Lib.hid hD
      clear hD hb1 HST HREF y0 y1 y2 y3 c0
      go_upto_if 31 with (fail)
      go_cut [8] (fun s8 wc => s8 = .bool (decide (d.armed = 1)) ∧ Hid (DoA w wc A g w.heap.size [.int .i64 3, strV [], strV n, .int .i64 0] fv nv sv pv kv { d with armed := d.armed - 1 }))
      case first =>
        by_cases ha0 : d.armed = 0
        · have i0 : ¬ (0 : Int) < (d.armed : Int) := by omega
          go_wp2_with (fail)
          go_meet
          refine ⟨?_, ?_⟩
          · simp [ha0]
          · have h5 := HD1.out
            have e5 : ({ d with armed := d.armed - 1 } : Dk) = d := by rw [ha0]; cases d; simp at ha0; subst ha0; rfl
            rw [e5]
            exact h5
        · have i0 : (0 : Int) < (d.armed : Int) := by omega
          have hw : IntKind.i64.wrap ((d.armed : Int) - 1) = ((d.armed - 1 : Nat) : Int) := by rw [IntWalk.i64_in _ (by omega)]; omega
          go_wp2_with (fail)
          go_meet
          refine ⟨?_, ?_⟩
          · by_cases ha1 : d.armed = 1
            · simp [ha1]
            · simp [ha1]; omega
          · exact HD1.out.arm _
      case rest =>
        clear c6 f6 HD1
        obtain ⟨rfl, HC⟩ := hcut
        have hD := HC.out
        have hnow : TabAt wc nv d.now := hD.ref.now
        obtain ⟨p, hp⟩ := AtPost.there d.now n
        have HA := rAt_at (w := wc.drew) (hnow.below ((Below.refl _ _).drew)) HN2.out.ok.now (by have := HN2.out.bd.now; omega) hp
        have hfl0 : d.files.length ≤ 1073741824 := by have := HN2.out.bd.files; omega
        have hpl0 : d.pend.length ≤ 1073741824 := by have := HN2.out.bd.safe; omega
        have hnl0 : d.now.length ≤ 1073741824 := by have := HN2.out.bd.now; omega
        have y0 := hD.box.cell 0
        have y1 := hD.box.cell 1
        have y2 := hD.box.cell 2
        have y3 := hD.box.cell 3
        simp only [List.getElem?_cons_zero, List.getElem?_cons_succ] at y0 y1 y2 y3
        obtain ⟨-, -, c2, c3, -, -, -, -⟩ := hD.ref.cells
        obtain ⟨fa, fc, hfv⟩ := row_shape hD.ref.files
        change fv = .slice fa d.files.length fc at hfv
        obtain ⟨na, nc, hnv, hnx⟩ := hnow
        subst hfv hnv
        have HDD := Lib.hid (hD.below ((Below.refl wc.heap.size wc).drew))
        have hsome : ∃ (k : Nat) (f : Nat), p = (k : Int) ∧ d.now[k]? = some (n, f) ∧ tget d.now n = some f := by
          rcases hp with ⟨_, h0⟩ | ⟨k, f, h1, h2, h3⟩
          · exfalso
            have h9 := HRR.out
            simp [drefused, h0] at h9
          · exact ⟨k, f, h1, h2, h3⟩
        obtain ⟨k, f, rfl, htk, hget⟩ := hsome
        have HGET := Lib.hid hget
        have hfi : f < d.files.length := HN2.out.ok.nowIn _ (tget_mem hget)
        obtain ⟨qb, qo, rfl, k0, k1⟩ := hnx k _ htk
        have hkl := (List.getElem?_eq_some_iff.1 htk).1
        obtain ⟨fb, fcap, hfe, f0, f1⟩ := hD.ref.file hfi
        simp only [Value.slice.injEq] at hfe
        obtain ⟨rfl, -, rfl⟩ := hfe
        have fz := fun j => hD.ref.files.frozenAt j
        have ik0 : (0 : Int) ≤ (k : Int) := by omega
        have ik1 : (k : Int) < (d.now.length : Int) := by omega
        have ik2 : (0 : Int) ≤ (f : Int) := by omega
        have ik3 : (f : Int) < (d.files.length : Int) := by omega
        simp only at k0 k1 f0 f1
        clear hD HC hp htk hget hnx
        go_upto_region 9 with (fail)
        refine wp_region_still_lit (by kernel_rfl) (by kernel_rfl) ?_
        repeat still_step
        still_call HA
        repeat still_step
        refine wpStill_nil ?_
        clear HA
        have e2 : wc.drew.cell? ⟨g, 2, none⟩ = _ := c2
        have e3 : wc.drew.cell? ⟨g, 3, none⟩ = _ := c3
        have e5 : wc.drew.cell? ⟨qb, qo + k * 2 + 1, none⟩ = _ := k1
        have e6 : wc.drew.cell? ⟨fb, f * 2, none⟩ = _ := f0
        have e7 : wc.drew.frozen? ⟨fb, f * 2 + 1, none⟩ = false := fz _
        have e8 : wc.drew.cell? ⟨fb, f * 2 + 1, none⟩ = _ := f1
        have z0 : wc.drew.cell? ⟨w.heap.size, 0, none⟩ = _ := y0
        have hszd := str_size (fat d.files f).data
        have hdl : (fat d.files f).data.length ≤ 268435456 := Nat.le_trans (fat_in d d.room HN2.out.bd.data f) HN2.out.bd.room
        clear c2 c3 k0 k1 f0 f1 y0 y1 y2 y3 fz
        go_upto_region 17 with (fail)
        generalize hW6 : wc.drew = V at *
        clear hW6
        have HZT : Hid (d.armed = 1 → DoA w V A g w.heap.size [.int .i64 3, strV [], strV n, .int .i64 0] (.slice (some ⟨fb, 0, none⟩) d.files.length fc) (.slice (some ⟨qb, qo, none⟩) d.now.length nc) sv pv kv (dact { d with armed := d.armed - 1 } true (.sync n))) := fun _ => HDD.out
        have hL := (HDD.out.layCell rfl (f * 2 + 1) (.int .i64 ((fat d.files f).data.length : Nat)) (d.files.set f ⟨(fat d.files f).data, (fat d.files f).data.length⟩) (by simp) (cellsF_safe d.files f _ hfi)).below ((Below.refl _ _).drew)
        have HZF : Hid (d.armed ≠ 1 → DoA w ((V.setCell ⟨fb, f * 2 + 1, none⟩ (.int .i64 ((fat d.files f).data.length : Nat))).drew) A g w.heap.size [.int .i64 3, strV [], strV n, .int .i64 0] (.slice (some ⟨fb, 0, none⟩) d.files.length fc) (.slice (some ⟨qb, qo, none⟩) d.now.length nc) sv pv kv (dact { d with armed := d.armed - 1 } false (.sync n))) := fun _ => by
          have e : dact { d with armed := d.armed - 1 } false (.sync n) = { ({ d with armed := d.armed - 1 } : Dk) with files := d.files.set f ⟨(fat d.files f).data, (fat d.files f).data.length⟩ } := by
            show ({ ({ d with armed := d.armed - 1 } : Dk) with files := fmod d.files ((tget d.now n).getD 0) _ } : Dk) = _
            rw [HGET.out]
            rfl
          rw [e]
          exact hL
        have z1 := hL.box.cell 0
        simp only [List.getElem?_cons_zero] at z1
        clear hL HDD
        generalize (fat d.files f).data = dt at *
        by_cases hst : d.armed = 1
        · have hsb : decide (d.armed = 1) = true := by simp [hst]
          have hDz := HZT.out hst
          have HFC := Lib.hid (rFail_mid hDz.ref (HN2.out.stroke true (.sync n) HOO.out HOFF.out HRR.out) hN)
          obtain ⟨-, -, -, -, -, -, -, c7⟩ := hDz.ref.cells
          have hfe : (dact { d with armed := d.armed - 1 } true (.sync n)).fate = d.fate := dact_fate _ _ _
          rw [hfe] at HFC
          have HFIN := Lib.hid fun (e : Ending) (w' : World) hp => RdDo.struck HOFF.out HRR.out hst HN2.out HOO.out (RFailPost.mid (keep := d.fate) (e := e) (w' := w') hDz.stp hDz.lt hp)
          clear hDz HZT HZF hfe
          go_wp2_with (fail)
          refine HFC.out.mono ?_
          rintro e w9 hp9
          have e9 := hp9.1
          have hres := HFIN.out _ _ hp9
          subst e9
          have HRES := Lib.hid hres
          clear hp9 hres HFIN HFC
          go_wp2
          go_ret
          exact HRES.out
        · have hsb : decide (d.armed = 1) = false := by simp [hst]
          go_upto_region 18 with (fail)
          refine wp_region_still_lit (by kernel_rfl) (by kernel_rfl) ?_
          repeat still_step
          refine wpStill_nil ?_
          go_upto_region 24 with (fail)
          generalize (V.setCell ⟨fb, f * 2 + 1, none⟩ (.int .i64 (dt.length : Nat))).drew = w7 at *
          have hDz := HZF.out hst
          have HRES := Lib.hid (RdDo.calm HOFF.out HRR.out hst HN2.out HOO.out hDz.mid)
          clear hDz HZT HZF
          go_wp2
          go_ret
          exact HRES.out
    · have HRES := Lib.hid fun (w1 : World) (h : DoA w w1 A g w.heap.size [.int .i64 3, strV [], strV n, .int .i64 0] fv nv sv pv kv d) => RdDo.no (o := .sync n) HOFF.out hr HN2.out h.mid
      generalize drefused d (.sync n) = rr at *
      have i0 : ¬ ((rr : Int) = 0) := by omega
      have i1 : ((rr : Int) == 0) = false := by simp; omega
      have HREF := Lib.hid hrf
      clear hr hrf
      go_enter Tryz.func70, Tryz.ntmps70
      go_wp2_with (fail)
      refine HREF.out.mono ?_
      rintro e w1 ⟨rfl, hb1⟩
      have hres := HRES.out w1 (HST.out w1 hb1)
      have HR2 := Lib.hid hres
      clear hres hb1 HST HREF HRES y0 y1 y2 y3 c0
      go_wp2
      go_ret
      exact HR2.out
end Go.Proofs.YtfgpigblnkanpaaGreatDoor

namespace Go.Proofs.YtfgpigblnkanpaaGreatDoor
open Go.RowKit Go.Maps Go.Shelf
set_option linter.unusedVariables false
set_option linter.unusedSimpArgs false

set_option maxHeartbeats 8000000 in
set_option maxRecDepth 100000 in
theorem rDo_rename (w : World) (A : List Nat) (g : Nat) (d : Dk) (N : Nat) (o n : Nm) (tx0 : List UInt8) (h : Rd2 w A g d N) (hN : N + 1 ≤ 1073741824) (ho : odSmall (.rename o n)) (htl : tx0.length ≤ 140737488355328) :
    Calls Tryz.prog 70 #[.pointer (some ⟨g, 0, none⟩), .agg #[.int .i64 4, strV o, strV n, .int .i64 0], strV tx0] w (RdDo g d (.rename o n) N A w) := by
  obtain ⟨fv, nv, sv, pv, kv, h1, h2, h3, h4⟩ := h
  have hB := h2.refB (by omega)
  have hoo : odOk (.rename o n) := ⟨by have h9 := ho.1; omega, by have h9 := ho.2; omega⟩
  have hgl := h1.blk.lt
  have hgb : g ≠ w.heap.size := by omega
  have hbx := Blk.new w [.int .i64 4, strV o, strV n, .int .i64 0] 122
  have y0 := hbx.cell 0
  have y1 := hbx.cell 1
  have y2 := hbx.cell 2
  have y3 := hbx.cell 3
  simp only [List.getElem?_cons_zero, List.getElem?_cons_succ] at y0 y1 y2 y3
  have hW : Below w.heap.size w (w.alloc (.cells ([.int .i64 4, strV o, strV n, .int .i64 0] : List Value).toArray 122)) := (Below.refl _ w).alloc (Nat.le_refl _) _
  have hWR := h1.below hW
  obtain ⟨c0, c1, c2, c3, c4, c5, c6, c7⟩ := hWR.cells
  have HN2 := Lib.hid h2
  have HOO := Lib.hid hoo
  have HA4 := Lib.hid h4
  by_cases hoff : d.off = true
  · have hres : RdDo g d (.rename o n) N A w (.returned (.int .i64 20)) (w.alloc (.cells ([.int .i64 4, strV o, strV n, .int .i64 0] : List Value).toArray 122)) := RdDo.off hoff h2 (RdMid.start h1 h3 h4 hW)
    rw [hoff] at c0
    have HRES := Lib.hid hres
    clear h1 h2 h3 h4 hB hoo hbx hW hWR hoff hres
    go_enter Tryz.func70, Tryz.ntmps70
    go_wp2
    go_ret
    exact HRES.out
  · have hoff' : d.off = false := by simpa using hoff
    rw [hoff'] at c0
    have hrf := rRefused_any _ g fv nv sv pv kv d (.rename o n) [] tx0 hWR hB ho (fun n' s' e' => by cases e' <;> rfl) hoff' htl
    have HST := Lib.hid fun wc hb => DoA.start (wc := wc) (cs := [.int .i64 4, strV o, strV n, .int .i64 0]) h1 h3 h4 hb
    have HOFF := Lib.hid hoff'
    have har : d.armed ≤ 9223372036854775807 := h2.bd.armed
    clear h1 h2 h3 h4 hB hoo hbx hW hWR hoff hoff' c1 c2 c3 c4 c5 c6 c7
    by_cases hr : drefused d (.rename o n) = 0
    · have HRR := Lib.hid hr
      rw [hr] at hrf
      have HREF := Lib.hid hrf
      clear hr hrf
      go_enter Tryz.func70, Tryz.ntmps70
      go_wp2_with (fail)
      refine HREF.out.mono ?_
      rintro e w1 ⟨rfl, hb1⟩
      have hD := HST.out w1 hb1
      have f6 := hD.ref.blk.free 6
      obtain ⟨-, -, -, -, -, -, c6, -⟩ := hD.ref.cells
      have HD1 := Lib.hid hD
      clear hD hb1 HST HREF y0 y1 y2 y3 c0
      go_upto_if 31 with (fail)
      go_cut [8] (fun s8 wc => s8 = .bool (decide (d.armed = 1)) ∧ Hid (DoA w wc A g w.heap.size [.int .i64 4, strV o, strV n, .int .i64 0] fv nv sv pv kv { d with armed := d.armed - 1 }))
      case first =>
        by_cases ha0 : d.armed = 0
        · have i0 : ¬ (0 : Int) < (d.armed : Int) := by omega
          go_wp2_with (fail)
          go_meet
          refine ⟨?_, ?_⟩
          · simp [ha0]
          · have h5 := HD1.out
            have e5 : ({ d with armed := d.armed - 1 } : Dk) = d := by rw [ha0]; cases d; simp at ha0; subst ha0; rfl
            rw [e5]
            exact h5
        · have i0 : (0 : Int) < (d.armed : Int) := by omega
          have hw : IntKind.i64.wrap ((d.armed : Int) - 1) = ((d.armed - 1 : Nat) : Int) := by rw [IntWalk.i64_in _ (by omega)]; omega
          go_wp2_with (fail)
          go_meet
          refine ⟨?_, ?_⟩
          · by_cases ha1 : d.armed = 1
            · simp [ha1]
            · simp [ha1]; omega
          · exact HD1.out.arm _
      case rest =>
        clear c6 f6 HD1
        obtain ⟨rfl, HC⟩ := hcut
        have hD := HC.out
        have hnow : TabAt wc nv d.now := hD.ref.now
        obtain ⟨p, hp⟩ := AtPost.there d.now n
        have HA := rAt_at (w := wc.drew) (hnow.below ((Below.refl _ _).drew)) HN2.out.ok.now (by have := HN2.out.bd.now; omega) hp
        have hfl0 : d.files.length ≤ 1073741824 := by have := HN2.out.bd.files; omega
        have hpl0 : d.pend.length ≤ 1073741824 := by have := HN2.out.bd.safe; omega
        have hnl0 : d.now.length ≤ 1073741824 := by have := HN2.out.bd.now; omega
        have y0 := hD.box.cell 0
        have y1 := hD.box.cell 1
        have y2 := hD.box.cell 2
        have y3 := hD.box.cell 3
        simp only [List.getElem?_cons_zero, List.getElem?_cons_succ] at y0 y1 y2 y3
        obtain ⟨-, -, c2, c3, -, -, -, -⟩ := hD.ref.cells
        obtain ⟨fa, fc, hfv⟩ := row_shape hD.ref.files
        change fv = .slice fa d.files.length fc at hfv
        obtain ⟨na, nc, hnv, hnx⟩ := hnow
        subst hfv hnv
        have HDD := Lib.hid (hD.below ((Below.refl wc.heap.size wc).drew))
        clear hD HC hp hnx
        go_upto_region 9 with (fail)
        refine wp_region_still_lit (by kernel_rfl) (by kernel_rfl) ?_
        repeat still_step
        still_call HA
        repeat still_step
        refine wpStill_nil ?_
        clear HA
        go_upto_region 24 with (fail)
        generalize hW6 : wc.drew = w6 at *
        clear hW6 y0 y1 y2 y3 c2 c3
        have HD6 := HDD
        clear HDD
        have hD6 := HD6.out
        have y0 := hD6.box.cell 0
        have y1 := hD6.box.cell 1
        have y2 := hD6.box.cell 2
        have y3 := hD6.box.cell 3
        simp only [List.set_cons_succ, List.set_cons_zero, List.getElem?_cons_zero, List.getElem?_cons_succ] at y0 y1 y2 y3
        obtain ⟨-, -, -, c3, -, -, -, -⟩ := hD6.ref.cells
        have hnw : TabAt w6 (.slice na d.now.length nc) d.now := hD6.ref.now
        have hgl6 := hD6.ref.blk.lt
        have hbl6 := hD6.box.lt
        have HDN := Lib.hid fun W (hb : Below w6.heap.size w6 W) => rDone_any W (.slice na d.now.length nc) d.now (.rn o n) (hnw.below hb) HN2.out.ok.now (by omega) (trivial) (fun x hx => by have := HN2.out.ok.nowIn x hx; omega)
        unfold opCells at HDN
        have HBG := Lib.hid hD6.ref.blk
        have HACT := Lib.hid fun v w2 (hb : Below w6.heap.size w6 w2) ht hv => hD6.layNow (wd := w2) hb (v := v) (t := tdone d.now (.rn o n)) ht hv
        clear hD6 hnw
        go_upto_if 138 with (fail)
        go_cut [9] (fun s9 wd => Hid (∃ fv' nv' pv', DoA w wd A g w.heap.size [.int .i64 4, strV o, strV n, .int .i64 0] fv' nv' sv pv' kv (dact { d with armed := d.armed - 1 } true (.rename o n))))
        case first =>
          go_upto_region 25 with (fail)
          go_region_with (first
            | (go_at_call 122; refine (HDN.out _ (Below.refl _ _).drew).mono ?_; rintro e w7 ⟨v7, rfl, hT7, hv7, hbl7⟩; have f3 := (HBG.out.below (below_undrew hbl7) hgl6).free 3; have e3 := (HBG.out.below (below_undrew hbl7) hgl6).cell 3; simp only [List.getElem?_cons_zero, List.getElem?_cons_succ] at e3; have HA2 := Lib.hid (HACT.out v7 w7 (below_undrew hbl7) hT7 hv7); obtain ⟨va7, vc7, rfl, -⟩ := hT7; clear hv7 hbl7))
          all_goals
            clear HDN HACT HBG y0 y1 y2 y3 c3
            go_upto_region 26 with (fail)
            generalize hW8 : w7.setCell ⟨g, 3, none⟩ _ = w8 at *
            clear hW8 f3 e3
            have hD8 := HA2.out
            have hpnd : w8.ownsRow 0 122 4 pv d.pend.length (cellsO d.pend) := hD8.ref.pend
            obtain ⟨pa, pc, hpe⟩ := row_shape hpnd
            subst hpe
            have y0 := hD8.box.cell 0
            have y1 := hD8.box.cell 1
            have y2 := hD8.box.cell 2
            have y3 := hD8.box.cell 3
            simp only [List.set_cons_succ, List.set_cons_zero, List.getElem?_cons_zero, List.getElem?_cons_succ] at y0 y1 y2 y3
            obtain ⟨-, -, -, -, -, c5, -, -⟩ := hD8.ref.cells
            obtain ⟨i1, hi1, hy0, hy1, hy2⟩ := info_parts infoOpR
            have HD8 := Lib.hid hD8
            have hgl8 := hD8.ref.blk.lt
            clear hD8 HA2
            go_region_law (first
              | (refine step_append_lies _ rfl (.tmp 152) (.tmp 154) 117 rfl 0 122 i1 (.agg #[.int .i64 0, strV [], strV [], .int .i64 0]) 4 48 Tryz.underlying117 hi1 hy0 hy1 hy2 rfl (by decide) (.slice pa d.pend.length pc) d.pend.length (cellsO d.pend) (by simp [Act.eval]) ((hpnd.alloc _).drew) ⟨w8.heap.size, 0, none⟩ 1 1 [.int .i64 4, strV o, strV n, .int .i64 0] (by simp [Act.eval]) rfl (World.news_of_block (cs := #[.int .i64 4, strV o, strV n, .int .i64 0]) (t := 122) (fr := (0, 0)) (heap_alloc_new w8 _)) (by simp [Value.oneCell']) (by omega) (by unfold maxLen; omega) (by omega) (Nat.zero_le _) (w8.heap.size + 1) (by simp) ?_; intro g9 cap9 w9 hown9 hgrow9 hpl9 hlt9; have hDp := HD8.out.below (((Below.refl w8.heap.size w8).alloc (Nat.le_refl _) (.cells #[.int .i64 4, strV o, strV n, .int .i64 0] 122)).drew); have hgw9 := hgrow9.block g hDp.ref.blk.lt (fun e => hDp.ref.gp e.symm); have q9 := hDp.ref.blk.same hgw9; have f5 := q9.free 5; have e5 := q9.cell 5; simp only [List.getElem?_cons_zero, List.getElem?_cons_succ] at e5; have HDZ := Lib.hid (hDp.addPend (p := .rn o n) (pv' := .slice (some ⟨g9, 0, none⟩) (d.pend.length + 1) cap9) hgrow9 hown9 (by rcases hpl9 with e | e; exact Or.inl e.symm; exact Or.inr (by rw [e]; simp [Value.ownBlock]))); clear hDp hgw9 q9 hown9 hgrow9 hpl9 hlt9))
            all_goals
              go_wp2_with (fail)
              go_meet
              exact ⟨_, _, _, HDZ.out⟩
        case rest =>
          clear HDN HACT HBG y0 y1 y2 y3 c3
          have HZ := hcut
          obtain ⟨fv', nv', pv', hz⟩ := HZ.out
          have HZT := Lib.hid fun (_ : d.armed = 1) => hz
          have HZF : Hid (d.armed ≠ 1 → DoA w wc A g w.heap.size [.int .i64 4, strV o, strV n, .int .i64 0] fv' nv' sv pv' kv (dact { d with armed := d.armed - 1 } false (.rename o n))) := fun _ => hz
          clear hz HZ hcut
          by_cases hst : d.armed = 1
          · have hsb : decide (d.armed = 1) = true := by simp [hst]
            have hDz := HZT.out hst
            have HFC := Lib.hid (rFail_mid hDz.ref (HN2.out.stroke true (.rename o n) HOO.out HOFF.out HRR.out) hN)
            obtain ⟨-, -, -, -, -, -, -, c7⟩ := hDz.ref.cells
            have hfe : (dact { d with armed := d.armed - 1 } true (.rename o n)).fate = d.fate := dact_fate _ _ _
            rw [hfe] at HFC
            have HFIN := Lib.hid fun (e : Ending) (w' : World) hp => RdDo.struck HOFF.out HRR.out hst HN2.out HOO.out (RFailPost.mid (keep := d.fate) (e := e) (w' := w') hDz.stp hDz.lt hp)
            clear hDz HZT HZF hfe
            go_wp2_with (fail)
            refine HFC.out.mono ?_
            rintro e w9 hp9
            have e9 := hp9.1
            have hres := HFIN.out _ _ hp9
            subst e9
            have HRES := Lib.hid hres
            clear hp9 hres HFIN HFC
            go_wp2
            go_ret
            exact HRES.out
          · have hsb : decide (d.armed = 1) = false := by simp [hst]
            have hDz := HZF.out hst
            have HRES := Lib.hid (RdDo.calm HOFF.out HRR.out hst HN2.out HOO.out hDz.mid)
            clear hDz HZT HZF
            go_wp2
            go_ret
            exact HRES.out
    · have HRES := Lib.hid fun (w1 : World) (h : DoA w w1 A g w.heap.size [.int .i64 4, strV o, strV n, .int .i64 0] fv nv sv pv kv d) => RdDo.no (o := .rename o n) HOFF.out hr HN2.out h.mid
      generalize drefused d (.rename o n) = rr at *
      have i0 : ¬ ((rr : Int) = 0) := by omega
      have i1 : ((rr : Int) == 0) = false := by simp; omega
      have HREF := Lib.hid hrf
      clear hr hrf
      go_enter Tryz.func70, Tryz.ntmps70
      go_wp2_with (fail)
      refine HREF.out.mono ?_
      rintro e w1 ⟨rfl, hb1⟩
      have hres := HRES.out w1 (HST.out w1 hb1)
      have HR2 := Lib.hid hres
      clear hres hb1 HST HREF HRES y0 y1 y2 y3 c0
      go_wp2
      go_ret
      exact HR2.out
end Go.Proofs.YtfgpigblnkanpaaGreatDoor

namespace Go.Proofs.YtfgpigblnkanpaaGreatDoor
open Go.RowKit Go.Maps Go.Shelf
set_option linter.unusedVariables false
set_option linter.unusedSimpArgs false

set_option maxHeartbeats 8000000 in
set_option maxRecDepth 100000 in
theorem rDo_remove (w : World) (A : List Nat) (g : Nat) (d : Dk) (N : Nat) (n : Nm) (tx0 : List UInt8) (h : Rd2 w A g d N) (hN : N + 1 ≤ 1073741824) (ho : odSmall (.remove n)) (htl : tx0.length ≤ 140737488355328) :
    Calls Tryz.prog 70 #[.pointer (some ⟨g, 0, none⟩), .agg #[.int .i64 5, strV [], strV n, .int .i64 0], strV tx0] w (RdDo g d (.remove n) N A w) := by
  obtain ⟨fv, nv, sv, pv, kv, h1, h2, h3, h4⟩ := h
  have hB := h2.refB (by omega)
  have hoo : odOk (.remove n) := by show n.length ≤ _; have h9 : n.length ≤ 140737488355328 := ho; omega
  have hgl := h1.blk.lt
  have hgb : g ≠ w.heap.size := by omega
  have hbx := Blk.new w [.int .i64 5, strV [], strV n, .int .i64 0] 122
  have y0 := hbx.cell 0
  have y1 := hbx.cell 1
  have y2 := hbx.cell 2
  have y3 := hbx.cell 3
  simp only [List.getElem?_cons_zero, List.getElem?_cons_succ] at y0 y1 y2 y3
  have hW : Below w.heap.size w (w.alloc (.cells ([.int .i64 5, strV [], strV n, .int .i64 0] : List Value).toArray 122)) := (Below.refl _ w).alloc (Nat.le_refl _) _
  have hWR := h1.below hW
  obtain ⟨c0, c1, c2, c3, c4, c5, c6, c7⟩ := hWR.cells
  have HN2 := Lib.hid h2
  have HOO := Lib.hid hoo
  have HA4 := Lib.hid h4
  by_cases hoff : d.off = true
  · have hres : RdDo g d (.remove n) N A w (.returned (.int .i64 20)) (w.alloc (.cells ([.int .i64 5, strV [], strV n, .int .i64 0] : List Value).toArray 122)) := RdDo.off hoff h2 (RdMid.start h1 h3 h4 hW)
    rw [hoff] at c0
    have HRES := Lib.hid hres
    clear h1 h2 h3 h4 hB hoo hbx hW hWR hoff hres
    go_enter Tryz.func70, Tryz.ntmps70
    go_wp2
    go_ret
    exact HRES.out
  · have hoff' : d.off = false := by simpa using hoff
    rw [hoff'] at c0
    have hrf := rRefused_any _ g fv nv sv pv kv d (.remove n) [] tx0 hWR hB ho (fun n' s' e' => by cases e' <;> rfl) hoff' htl
    have HST := Lib.hid fun wc hb => DoA.start (wc := wc) (cs := [.int .i64 5, strV [], strV n, .int .i64 0]) h1 h3 h4 hb
    have HOFF := Lib.hid hoff'
    have har : d.armed ≤ 9223372036854775807 := h2.bd.armed
    clear h1 h2 h3 h4 hB hoo hbx hW hWR hoff hoff' c1 c2 c3 c4 c5 c6 c7
    by_cases hr : drefused d (.remove n) = 0
    · have HRR := Lib.hid hr
      rw [hr] at hrf
      have HREF := Lib.hid hrf
      clear hr hrf
      go_enter Tryz.func70, Tryz.ntmps70
      go_wp2_with (fail)
      refine HREF.out.mono ?_
      rintro e w1 ⟨rfl, hb1⟩
      have hD := HST.out w1 hb1
      have f6 := hD.ref.blk.free 6
      obtain ⟨-, -, -, -, -, -, c6, -⟩ := hD.ref.cells
      have HD1 := Lib.hid hD
      clear hD hb1 HST HREF y0 y1 y2 y3 c0
      go_upto_if 31 with (fail)
      go_cut [8] (fun s8 wc => s8 = .bool (decide (d.armed = 1)) ∧ Hid (DoA w wc A g w.heap.size [.int .i64 5, strV [], strV n, .int .i64 0] fv nv sv pv kv { d with armed := d.armed - 1 }))
      case first =>
        by_cases ha0 : d.armed = 0
        · have i0 : ¬ (0 : Int) < (d.armed : Int) := by omega
          go_wp2_with (fail)
          go_meet
          refine ⟨?_, ?_⟩
          · simp [ha0]
          · have h5 := HD1.out
            have e5 : ({ d with armed := d.armed - 1 } : Dk) = d := by rw [ha0]; cases d; simp at ha0; subst ha0; rfl
            rw [e5]
            exact h5
        · have i0 : (0 : Int) < (d.armed : Int) := by omega
          have hw : IntKind.i64.wrap ((d.armed : Int) - 1) = ((d.armed - 1 : Nat) : Int) := by rw [IntWalk.i64_in _ (by omega)]; omega
          go_wp2_with (fail)
          go_meet
          refine ⟨?_, ?_⟩
          · by_cases ha1 : d.armed = 1
            · simp [ha1]
            · simp [ha1]; omega
          · exact HD1.out.arm _
      case rest =>
        clear c6 f6 HD1
        obtain ⟨rfl, HC⟩ := hcut
        have hD := HC.out
        have hnow : TabAt wc nv d.now := hD.ref.now
        obtain ⟨p, hp⟩ := AtPost.there d.now n
        have HA := rAt_at (w := wc.drew) (hnow.below ((Below.refl _ _).drew)) HN2.out.ok.now (by have := HN2.out.bd.now; omega) hp
        have hfl0 : d.files.length ≤ 1073741824 := by have := HN2.out.bd.files; omega
        have hpl0 : d.pend.length ≤ 1073741824 := by have := HN2.out.bd.safe; omega
        have hnl0 : d.now.length ≤ 1073741824 := by have := HN2.out.bd.now; omega
        have y0 := hD.box.cell 0
        have y1 := hD.box.cell 1
        have y2 := hD.box.cell 2
        have y3 := hD.box.cell 3
        simp only [List.getElem?_cons_zero, List.getElem?_cons_succ] at y0 y1 y2 y3
        obtain ⟨-, -, c2, c3, -, -, -, -⟩ := hD.ref.cells
        obtain ⟨fa, fc, hfv⟩ := row_shape hD.ref.files
        change fv = .slice fa d.files.length fc at hfv
        obtain ⟨na, nc, hnv, hnx⟩ := hnow
        subst hfv hnv
        have HDD := Lib.hid (hD.below ((Below.refl wc.heap.size wc).drew))
        clear hD HC hp hnx
        go_upto_region 9 with (fail)
        refine wp_region_still_lit (by kernel_rfl) (by kernel_rfl) ?_
        repeat still_step
        still_call HA
        repeat still_step
        refine wpStill_nil ?_
        clear HA
        go_upto_region 24 with (fail)
        generalize hW6 : wc.drew = w6 at *
        clear hW6 y0 y1 y2 y3 c2 c3
        have HD6 := HDD
        clear HDD
        have hD6 := HD6.out
        have y0 := hD6.box.cell 0
        have y1 := hD6.box.cell 1
        have y2 := hD6.box.cell 2
        have y3 := hD6.box.cell 3
        simp only [List.set_cons_succ, List.set_cons_zero, List.getElem?_cons_zero, List.getElem?_cons_succ] at y0 y1 y2 y3
        obtain ⟨-, -, -, c3, -, -, -, -⟩ := hD6.ref.cells
        have hnw : TabAt w6 (.slice na d.now.length nc) d.now := hD6.ref.now
        have hgl6 := hD6.ref.blk.lt
        have hbl6 := hD6.box.lt
        have HDN := Lib.hid fun W (hb : Below w6.heap.size w6 W) => rDone_any W (.slice na d.now.length nc) d.now (.rm n) (hnw.below hb) HN2.out.ok.now (by omega) (trivial) (fun x hx => by have := HN2.out.ok.nowIn x hx; omega)
        unfold opCells at HDN
        have HBG := Lib.hid hD6.ref.blk
        have HACT := Lib.hid fun v w2 (hb : Below w6.heap.size w6 w2) ht hv => hD6.layNow (wd := w2) hb (v := v) (t := tdone d.now (.rm n)) ht hv
        clear hD6 hnw
        go_upto_if 138 with (fail)
        go_cut [9] (fun s9 wd => Hid (∃ fv' nv' pv', DoA w wd A g w.heap.size [.int .i64 5, strV [], strV n, .int .i64 0] fv' nv' sv pv' kv (dact { d with armed := d.armed - 1 } true (.remove n))))
        case first =>
          go_upto_region 25 with (fail)
          go_region_with (first
            | (go_at_call 122; refine (HDN.out _ (Below.refl _ _).drew).mono ?_; rintro e w7 ⟨v7, rfl, hT7, hv7, hbl7⟩; have f3 := (HBG.out.below (below_undrew hbl7) hgl6).free 3; have e3 := (HBG.out.below (below_undrew hbl7) hgl6).cell 3; simp only [List.getElem?_cons_zero, List.getElem?_cons_succ] at e3; have HA2 := Lib.hid (HACT.out v7 w7 (below_undrew hbl7) hT7 hv7); obtain ⟨va7, vc7, rfl, -⟩ := hT7; clear hv7 hbl7))
          all_goals
            clear HDN HACT HBG y0 y1 y2 y3 c3
            go_upto_region 26 with (fail)
            generalize hW8 : w7.setCell ⟨g, 3, none⟩ _ = w8 at *
            clear hW8 f3 e3
            have hD8 := HA2.out
            have hpnd : w8.ownsRow 0 122 4 pv d.pend.length (cellsO d.pend) := hD8.ref.pend
            obtain ⟨pa, pc, hpe⟩ := row_shape hpnd
            subst hpe
            have y0 := hD8.box.cell 0
            have y1 := hD8.box.cell 1
            have y2 := hD8.box.cell 2
            have y3 := hD8.box.cell 3
            simp only [List.set_cons_succ, List.set_cons_zero, List.getElem?_cons_zero, List.getElem?_cons_succ] at y0 y1 y2 y3
            obtain ⟨-, -, -, -, -, c5, -, -⟩ := hD8.ref.cells
            obtain ⟨i1, hi1, hy0, hy1, hy2⟩ := info_parts infoOpR
            have HD8 := Lib.hid hD8
            have hgl8 := hD8.ref.blk.lt
            clear hD8 HA2
            go_region_law (first
              | (refine step_append_lies _ rfl (.tmp 152) (.tmp 154) 117 rfl 0 122 i1 (.agg #[.int .i64 0, strV [], strV [], .int .i64 0]) 4 48 Tryz.underlying117 hi1 hy0 hy1 hy2 rfl (by decide) (.slice pa d.pend.length pc) d.pend.length (cellsO d.pend) (by simp [Act.eval]) ((hpnd.alloc _).drew) ⟨w8.heap.size, 0, none⟩ 1 1 [.int .i64 5, strV [], strV n, .int .i64 0] (by simp [Act.eval]) rfl (World.news_of_block (cs := #[.int .i64 5, strV [], strV n, .int .i64 0]) (t := 122) (fr := (0, 0)) (heap_alloc_new w8 _)) (by simp [Value.oneCell']) (by omega) (by unfold maxLen; omega) (by omega) (Nat.zero_le _) (w8.heap.size + 1) (by simp) ?_; intro g9 cap9 w9 hown9 hgrow9 hpl9 hlt9; have hDp := HD8.out.below (((Below.refl w8.heap.size w8).alloc (Nat.le_refl _) (.cells #[.int .i64 5, strV [], strV n, .int .i64 0] 122)).drew); have hgw9 := hgrow9.block g hDp.ref.blk.lt (fun e => hDp.ref.gp e.symm); have q9 := hDp.ref.blk.same hgw9; have f5 := q9.free 5; have e5 := q9.cell 5; simp only [List.getElem?_cons_zero, List.getElem?_cons_succ] at e5; have HDZ := Lib.hid (hDp.addPend (p := .rm n) (pv' := .slice (some ⟨g9, 0, none⟩) (d.pend.length + 1) cap9) hgrow9 hown9 (by rcases hpl9 with e | e; exact Or.inl e.symm; exact Or.inr (by rw [e]; simp [Value.ownBlock]))); clear hDp hgw9 q9 hown9 hgrow9 hpl9 hlt9))
            all_goals
              go_wp2_with (fail)
              go_meet
              exact ⟨_, _, _, HDZ.out⟩
        case rest =>
          clear HDN HACT HBG y0 y1 y2 y3 c3
          have HZ := hcut
          obtain ⟨fv', nv', pv', hz⟩ := HZ.out
          have HZT := Lib.hid fun (_ : d.armed = 1) => hz
          have HZF : Hid (d.armed ≠ 1 → DoA w wc A g w.heap.size [.int .i64 5, strV [], strV n, .int .i64 0] fv' nv' sv pv' kv (dact { d with armed := d.armed - 1 } false (.remove n))) := fun _ => hz
          clear hz HZ hcut
          by_cases hst : d.armed = 1
          · have hsb : decide (d.armed = 1) = true := by simp [hst]
            have hDz := HZT.out hst
            have HFC := Lib.hid (rFail_mid hDz.ref (HN2.out.stroke true (.remove n) HOO.out HOFF.out HRR.out) hN)
            obtain ⟨-, -, -, -, -, -, -, c7⟩ := hDz.ref.cells
            have hfe : (dact { d with armed := d.armed - 1 } true (.remove n)).fate = d.fate := dact_fate _ _ _
            rw [hfe] at HFC
            have HFIN := Lib.hid fun (e : Ending) (w' : World) hp => RdDo.struck HOFF.out HRR.out hst HN2.out HOO.out (RFailPost.mid (keep := d.fate) (e := e) (w' := w') hDz.stp hDz.lt hp)
            clear hDz HZT HZF hfe
            go_wp2_with (fail)
            refine HFC.out.mono ?_
            rintro e w9 hp9
            have e9 := hp9.1
            have hres := HFIN.out _ _ hp9
            subst e9
            have HRES := Lib.hid hres
            clear hp9 hres HFIN HFC
            go_wp2
            go_ret
            exact HRES.out
          · have hsb : decide (d.armed = 1) = false := by simp [hst]
            have hDz := HZF.out hst
            have HRES := Lib.hid (RdDo.calm HOFF.out HRR.out hst HN2.out HOO.out hDz.mid)
            clear hDz HZT HZF
            go_wp2
            go_ret
            exact HRES.out
    · have HRES := Lib.hid fun (w1 : World) (h : DoA w w1 A g w.heap.size [.int .i64 5, strV [], strV n, .int .i64 0] fv nv sv pv kv d) => RdDo.no (o := .remove n) HOFF.out hr HN2.out h.mid
      generalize drefused d (.remove n) = rr at *
      have i0 : ¬ ((rr : Int) = 0) := by omega
      have i1 : ((rr : Int) == 0) = false := by simp; omega
      have HREF := Lib.hid hrf
      clear hr hrf
      go_enter Tryz.func70, Tryz.ntmps70
      go_wp2_with (fail)
      refine HREF.out.mono ?_
      rintro e w1 ⟨rfl, hb1⟩
      have hres := HRES.out w1 (HST.out w1 hb1)
      have HR2 := Lib.hid hres
      clear hres hb1 HST HREF HRES y0 y1 y2 y3 c0
      go_wp2
      go_ret
      exact HR2.out
end Go.Proofs.YtfgpigblnkanpaaGreatDoor

namespace Go.Proofs.YtfgpigblnkanpaaGreatDoor
open Go.RowKit Go.Maps Go.Shelf
set_option linter.unusedVariables false
set_option linter.unusedSimpArgs false

set_option maxHeartbeats 8000000 in
set_option maxRecDepth 100000 in
theorem rDo_flush (w : World) (A : List Nat) (g : Nat) (d : Dk) (N : Nat) (nm : Nm) (tx0 : List UInt8) (h : Rd2 w A g d N) (hN : N + 1 ≤ 1073741824) (ho : odSmall (.flush)) (htl : tx0.length ≤ 140737488355328) :
    Calls Tryz.prog 70 #[.pointer (some ⟨g, 0, none⟩), .agg #[.int .i64 6, strV [], strV nm, .int .i64 0], strV tx0] w (RdDo g d (.flush) N A w) := by
  obtain ⟨fv, nv, sv, pv, kv, h1, h2, h3, h4⟩ := h
  have hB := h2.refB (by omega)
  have hoo : odOk (.flush) := trivial
  have hgl := h1.blk.lt
  have hgb : g ≠ w.heap.size := by omega
  have hbx := Blk.new w [.int .i64 6, strV [], strV nm, .int .i64 0] 122
  have y0 := hbx.cell 0
  have y1 := hbx.cell 1
  have y2 := hbx.cell 2
  have y3 := hbx.cell 3
  simp only [List.getElem?_cons_zero, List.getElem?_cons_succ] at y0 y1 y2 y3
  have hW : Below w.heap.size w (w.alloc (.cells ([.int .i64 6, strV [], strV nm, .int .i64 0] : List Value).toArray 122)) := (Below.refl _ w).alloc (Nat.le_refl _) _
  have hWR := h1.below hW
  obtain ⟨c0, c1, c2, c3, c4, c5, c6, c7⟩ := hWR.cells
  have HN2 := Lib.hid h2
  have HOO := Lib.hid hoo
  have HA4 := Lib.hid h4
  by_cases hoff : d.off = true
  · have hres : RdDo g d (.flush) N A w (.returned (.int .i64 20)) (w.alloc (.cells ([.int .i64 6, strV [], strV nm, .int .i64 0] : List Value).toArray 122)) := RdDo.off hoff h2 (RdMid.start h1 h3 h4 hW)
    rw [hoff] at c0
    have HRES := Lib.hid hres
    clear h1 h2 h3 h4 hB hoo hbx hW hWR hoff hres
    go_enter Tryz.func70, Tryz.ntmps70
    go_wp2
    go_ret
    exact HRES.out
  · have hoff' : d.off = false := by simpa using hoff
    rw [hoff'] at c0
    have hrf := rRefused_any _ g fv nv sv pv kv d (.flush) nm tx0 hWR hB ho (fun n' s' e' => by cases e' <;> rfl) hoff' htl
    have HST := Lib.hid fun wc hb => DoA.start (wc := wc) (cs := [.int .i64 6, strV [], strV nm, .int .i64 0]) h1 h3 h4 hb
    have HOFF := Lib.hid hoff'
    have har : d.armed ≤ 9223372036854775807 := h2.bd.armed
    clear h1 h2 h3 h4 hB hoo hbx hW hWR hoff hoff' c1 c2 c3 c4 c5 c6 c7
    by_cases hr : drefused d (.flush) = 0
    · have HRR := Lib.hid hr
      rw [hr] at hrf
      have HREF := Lib.hid hrf
      clear hr hrf
      go_enter Tryz.func70, Tryz.ntmps70
      go_wp2_with (fail)
      refine HREF.out.mono ?_
      rintro e w1 ⟨rfl, hb1⟩
      have hD := HST.out w1 hb1
      have f6 := hD.ref.blk.free 6
      obtain ⟨-, -, -, -, -, -, c6, -⟩ := hD.ref.cells
      have HD1 := Lib.hid hD
      clear hD hb1 HST HREF y0 y1 y2 y3 c0
      go_upto_if 31 with (fail)
      go_cut [8] (fun s8 wc => s8 = .bool (decide (d.armed = 1)) ∧ Hid (DoA w wc A g w.heap.size [.int .i64 6, strV [], strV nm, .int .i64 0] fv nv sv pv kv { d with armed := d.armed - 1 }))
      case first =>
        by_cases ha0 : d.armed = 0
        · have i0 : ¬ (0 : Int) < (d.armed : Int) := by omega
          go_wp2_with (fail)
          go_meet
          refine ⟨?_, ?_⟩
          · simp [ha0]
          · have h5 := HD1.out
            have e5 : ({ d with armed := d.armed - 1 } : Dk) = d := by rw [ha0]; cases d; simp at ha0; subst ha0; rfl
            rw [e5]
            exact h5
        · have i0 : (0 : Int) < (d.armed : Int) := by omega
          have hw : IntKind.i64.wrap ((d.armed : Int) - 1) = ((d.armed - 1 : Nat) : Int) := by rw [IntWalk.i64_in _ (by omega)]; omega
          go_wp2_with (fail)
          go_meet
          refine ⟨?_, ?_⟩
          · by_cases ha1 : d.armed = 1
            · simp [ha1]
            · simp [ha1]; omega
          · exact HD1.out.arm _
      case rest =>
        clear c6 f6 HD1
        obtain ⟨rfl, HC⟩ := hcut
        have hD := HC.out
        have hnow : TabAt wc nv d.now := hD.ref.now
        obtain ⟨p, hp⟩ := AtPost.there d.now nm
        have HA := rAt_at (w := wc.drew) (hnow.below ((Below.refl _ _).drew)) HN2.out.ok.now (by have := HN2.out.bd.now; omega) hp
        have hfl0 : d.files.length ≤ 1073741824 := by have := HN2.out.bd.files; omega
        have hpl0 : d.pend.length ≤ 1073741824 := by have := HN2.out.bd.safe; omega
        have hnl0 : d.now.length ≤ 1073741824 := by have := HN2.out.bd.now; omega
        have y0 := hD.box.cell 0
        have y1 := hD.box.cell 1
        have y2 := hD.box.cell 2
        have y3 := hD.box.cell 3
        simp only [List.getElem?_cons_zero, List.getElem?_cons_succ] at y0 y1 y2 y3
        obtain ⟨-, -, c2, c3, -, -, -, -⟩ := hD.ref.cells
        obtain ⟨fa, fc, hfv⟩ := row_shape hD.ref.files
        change fv = .slice fa d.files.length fc at hfv
        obtain ⟨na, nc, hnv, hnx⟩ := hnow
        subst hfv hnv
        have HDD := Lib.hid (hD.below ((Below.refl wc.heap.size wc).drew))
        clear hD HC hp hnx
        go_upto_region 9 with (fail)
        refine wp_region_still_lit (by kernel_rfl) (by kernel_rfl) ?_
        repeat still_step
        still_call HA
        repeat still_step
        refine wpStill_nil ?_
        clear HA
        have e3 : wc.drew.cell? ⟨g, 3, none⟩ = _ := c3
        have z0 : wc.drew.cell? ⟨w.heap.size, 0, none⟩ = _ := y0
        clear c2 c3 y0 y1 y2 y3
        go_upto_region 21 with (fail)
        generalize hW6 : wc.drew = V at *
        clear hW6
        have g4 := HDD.out.ref.blk.free 4
        have g5 := HDD.out.ref.blk.free 5
        obtain ⟨-, -, -, -, e4, e5, -, -⟩ := HDD.out.ref.cells
        have HZT : Hid (d.armed = 1 → DoA w V A g w.heap.size [.int .i64 6, strV [], strV nm, .int .i64 0] (.slice fa d.files.length fc) (.slice na d.now.length nc) sv pv kv (dact { d with armed := d.armed - 1 } true (.flush))) := fun _ => HDD.out
        have hL := HDD.out.layFlush
        have HZF : Hid (d.armed ≠ 1 → DoA w ((V.setCell ⟨g, 4, none⟩ (.slice na d.now.length nc)).setCell ⟨g, 5, none⟩ (.slice none 0 0)) A g w.heap.size [.int .i64 6, strV [], strV nm, .int .i64 0] (.slice fa d.files.length fc) (.slice na d.now.length nc) (.slice na d.now.length nc) (.slice none 0 0) kv (dact { d with armed := d.armed - 1 } false (.flush))) := fun _ => hL
        have z1 := hL.box.cell 0
        simp only [List.getElem?_cons_zero] at z1
        clear hL HDD
        by_cases hst : d.armed = 1
        · have hsb : decide (d.armed = 1) = true := by simp [hst]
          have hDz := HZT.out hst
          have HFC := Lib.hid (rFail_mid hDz.ref (HN2.out.stroke true (.flush) HOO.out HOFF.out HRR.out) hN)
          obtain ⟨-, -, -, -, -, -, -, c7⟩ := hDz.ref.cells
          have hfe : (dact { d with armed := d.armed - 1 } true (.flush)).fate = d.fate := dact_fate _ _ _
          rw [hfe] at HFC
          have HFIN := Lib.hid fun (e : Ending) (w' : World) hp => RdDo.struck HOFF.out HRR.out hst HN2.out HOO.out (RFailPost.mid (keep := d.fate) (e := e) (w' := w') hDz.stp hDz.lt hp)
          clear hDz HZT HZF hfe
          go_wp2_with (fail)
          refine HFC.out.mono ?_
          rintro e w9 hp9
          have e9 := hp9.1
          have hres := HFIN.out _ _ hp9
          subst e9
          have HRES := Lib.hid hres
          clear hp9 hres HFIN HFC
          go_wp2
          go_ret
          exact HRES.out
        · have hsb : decide (d.armed = 1) = false := by simp [hst]
          go_upto_region 24 with (fail)
          generalize (V.setCell ⟨g, 4, none⟩ (.slice na d.now.length nc)).setCell ⟨g, 5, none⟩ (.slice none 0 0) = w7 at *
          have hDz := HZF.out hst
          have HRES := Lib.hid (RdDo.calm HOFF.out HRR.out hst HN2.out HOO.out hDz.mid)
          clear hDz HZT HZF
          go_wp2
          go_ret
          exact HRES.out
    · have HRES := Lib.hid fun (w1 : World) (h : DoA w w1 A g w.heap.size [.int .i64 6, strV [], strV nm, .int .i64 0] fv nv sv pv kv d) => RdDo.no (o := .flush) HOFF.out hr HN2.out h.mid
      generalize drefused d (.flush) = rr at *
      have i0 : ¬ ((rr : Int) = 0) := by omega
      have i1 : ((rr : Int) == 0) = false := by simp; omega
      have HREF := Lib.hid hrf
      clear hr hrf
      go_enter Tryz.func70, Tryz.ntmps70
      go_wp2_with (fail)
      refine HREF.out.mono ?_
      rintro e w1 ⟨rfl, hb1⟩
      have hres := HRES.out w1 (HST.out w1 hb1)
      have HR2 := Lib.hid hres
      clear hres hb1 HST HREF HRES y0 y1 y2 y3 c0
      go_wp2
      go_ret
      exact HR2.out
end Go.Proofs.YtfgpigblnkanpaaGreatDoor
