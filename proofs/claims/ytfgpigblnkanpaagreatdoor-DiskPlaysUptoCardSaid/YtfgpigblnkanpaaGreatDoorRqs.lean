/- The document's disk: Do, of sync. -/
import Derived.Test.YtfgpigblnkanpaaGreatDoorGI
import Derived.Deep.DeepCutAuto
import Derived.StillTailTactics
import Derived.Deep.RegionWith
import Derived.Deep.AppendLies
import Derived.Deep.RegionLaw
namespace Go.Proofs.YtfgpigblnkanpaaGreatDoor
open Go.RowKit Go.Maps Go.Shelf
set_option linter.unusedVariables false
set_option linter.unusedSimpArgs false

set_option maxHeartbeats 8000000 in
set_option maxRecDepth 100000 in
theorem rDo_sync (w : World) (A : List Nat) (g : Nat) (d : Dk) (N : Nat) (n : Nm) (tx0 : List UInt8) (h : Rd2 w A g d N) (hN : N + 1 ≤ 1073741824) (ho : odSmall (.sync n)) (htl : tx0.length ≤ 140737488355328) :
    Calls Tryz.prog 70 #[.pointer (some ⟨g, 0, none⟩), .agg #[.int .i64 3, strV [], strV n, .int .i64 0], strV tx0] w (RdDo g d (.sync n) N A w) := by
  obtain ⟨fv, nv, sv, pv, kv, h1, h2, h3, h4⟩ := h
  have hB := h2.refB (by omega)
  have hoo : odOk (.sync n) := by show n.length ≤ _; have h9 : n.length ≤ 140737488355328 := ho; omega
  have hgl := h1.blk.lt
  have hgb : g ≠ w.heap.size := by omega
  have hbx := Blk.new w [.int .i64 3, strV [], strV n, .int .i64 0] 122
  have y0 := hbx.cell 0
  have y1 := hbx.cell 1
  have y2 := hbx.cell 2
  have y3 := hbx.cell 3
  simp only [List.getElem?_cons_zero, List.getElem?_cons_succ] at y0 y1 y2 y3
  have hW : Below w.heap.size w (w.alloc (.cells ([.int .i64 3, strV [], strV n, .int .i64 0] : List Value).toArray 122)) := (Below.refl _ w).alloc (Nat.le_refl _) _
  have hWR := h1.below hW
  obtain ⟨c0, c1, c2, c3, c4, c5, c6, c7⟩ := hWR.cells
  have HN2 := Lib.hid h2
  have HOO := Lib.hid hoo
  have HA4 := Lib.hid h4
  by_cases hoff : d.off = true
  · have hres : RdDo g d (.sync n) N A w (.returned (.int .i64 20)) (w.alloc (.cells ([.int .i64 3, strV [], strV n, .int .i64 0] : List Value).toArray 122)) := RdDo.off hoff h2 (RdMid.start h1 h3 h4 hW)
    rw [hoff] at c0
    have HRES := Lib.hid hres
    clear h1 h2 h3 h4 hB hoo hbx hW hWR hoff hres
    go_enter Tryz.func70, Tryz.ntmps70
    go_wp2
    go_ret
    exact HRES.out
  · have hoff' : d.off = false := by simpa using hoff
    rw [hoff'] at c0
    have hrf := rRefused_any _ g fv nv sv pv kv d (.sync n) [] tx0 hWR hB ho (fun n' s' e' => by cases e' <;> rfl) hoff' htl
    have HST := Lib.hid fun wc hb => DoA.start (wc := wc) (cs := [.int .i64 3, strV [], strV n, .int .i64 0]) h1 h3 h4 hb
    have HOFF := Lib.hid hoff'
    have har : d.armed ≤ 9223372036854775807 := h2.bd.armed
    clear h1 h2 h3 h4 hB hoo hbx hW hWR hoff hoff' c1 c2 c3 c4 c5 c6 c7
    by_cases hr : drefused d (.sync n) = 0
    · have HRR := Lib.hid hr
      rw [hr] at hrf
      have HREF := Lib.hid hrf
      clear hr hrf
      go_enter Tryz.func70, Tryz.ntmps70
      go_wp2_with (fail)
      refine HREF.out.mono ?_
      rintro e w1 ⟨rfl, hb1⟩
      have hD := HST.out w1 hb1
      have f6 := hD.ref.blk.free 6
      obtain ⟨-, -, -, -, -, -, c6, -⟩ := hD.ref.cells
      have HD1 := Lib.hid hD
      clear hD hb1 HST HREF y0 y1 y2 y3 c0
      go_upto_if 31 with (fail)
      go_cut [8] (fun s8 wc => s8 = .bool (decide (d.armed = 1)) ∧ Hid (DoA w wc A g w.heap.size [.int .i64 3, strV [], strV n, .int .i64 0] fv nv sv pv kv { d with armed := d.armed - 1 }))
      case first =>
        by_cases ha0 : d.armed = 0
        · have i0 : ¬ (0 : Int) < (d.armed : Int) := by omega
          go_wp2_with (fail)
          go_meet
          refine ⟨?_, ?_⟩
          · simp [ha0]
          · have h5 := HD1.out
            have e5 : ({ d with armed := d.armed - 1 } : Dk) = d := by rw [ha0]; cases d; simp at ha0; subst ha0; rfl
            rw [e5]
            exact h5
        · have i0 : (0 : Int) < (d.armed : Int) := by omega
          have hw : IntKind.i64.wrap ((d.armed : Int) - 1) = ((d.armed - 1 : Nat) : Int) := by rw [IntWalk.i64_in _ (by omega)]; omega
          go_wp2_with (fail)
          go_meet
          refine ⟨?_, ?_⟩
          · by_cases ha1 : d.armed = 1
            · simp [ha1]
            · simp [ha1]; omega
          · exact HD1.out.arm _
      case rest =>
        clear c6 f6 HD1
        obtain ⟨rfl, HC⟩ := hcut
        have hD := HC.out
        have hnow : TabAt wc nv d.now := hD.ref.now
        obtain ⟨p, hp⟩ := AtPost.there d.now n
        have HA := rAt_at (w := wc.drew) (hnow.below ((Below.refl _ _).drew)) HN2.out.ok.now (by have := HN2.out.bd.now; omega) hp
        have hfl0 : d.files.length ≤ 1073741824 := by have := HN2.out.bd.files; omega
        have hpl0 : d.pend.length ≤ 1073741824 := by have := HN2.out.bd.safe; omega
        have hnl0 : d.now.length ≤ 1073741824 := by have := HN2.out.bd.now; omega
        have y0 := hD.box.cell 0
        have y1 := hD.box.cell 1
        have y2 := hD.box.cell 2
        have y3 := hD.box.cell 3
        simp only [List.getElem?_cons_zero, List.getElem?_cons_succ] at y0 y1 y2 y3
        obtain ⟨-, -, c2, c3, -, -, -, -⟩ := hD.ref.cells
        obtain ⟨fa, fc, hfv⟩ := row_shape hD.ref.files
        change fv = .slice fa d.files.length fc at hfv
        obtain ⟨na, nc, hnv, hnx⟩ := hnow
        subst hfv hnv
        have HDD := Lib.hid (hD.below ((Below.refl wc.heap.size wc).drew))
        have hsome : ∃ (k : Nat) (f : Nat), p = (k : Int) ∧ d.now[k]? = some (n, f) ∧ tget d.now n = some f := by
          rcases hp with ⟨_, h0⟩ | ⟨k, f, h1, h2, h3⟩
          · exfalso
            have h9 := HRR.out
            simp [drefused, h0] at h9
          · exact ⟨k, f, h1, h2, h3⟩
        obtain ⟨k, f, rfl, htk, hget⟩ := hsome
        have HGET := Lib.hid hget
        have hfi : f < d.files.length := HN2.out.ok.nowIn _ (tget_mem hget)
        obtain ⟨qb, qo, rfl, k0, k1⟩ := hnx k _ htk
        have hkl := (List.getElem?_eq_some_iff.1 htk).1
        obtain ⟨fb, fcap, hfe, f0, f1⟩ := hD.ref.file hfi
        simp only [Value.slice.injEq] at hfe
        obtain ⟨rfl, -, rfl⟩ := hfe
        have fz := fun j => hD.ref.files.frozenAt j
        have ik0 : (0 : Int) ≤ (k : Int) := by omega
        have ik1 : (k : Int) < (d.now.length : Int) := by omega
        have ik2 : (0 : Int) ≤ (f : Int) := by omega
        have ik3 : (f : Int) < (d.files.length : Int) := by omega
        simp only at k0 k1 f0 f1
        clear hD HC hp htk hget hnx
        go_upto_region 9 with (fail)
        refine wp_region_still_lit (by kernel_rfl) (by kernel_rfl) ?_
        repeat still_step
        still_call HA
        repeat still_step
        refine wpStill_nil ?_
        clear HA
        have e2 : wc.drew.cell? ⟨g, 2, none⟩ = _ := c2
        have e3 : wc.drew.cell? ⟨g, 3, none⟩ = _ := c3
        have e5 : wc.drew.cell? ⟨qb, qo + k * 2 + 1, none⟩ = _ := k1
        have e6 : wc.drew.cell? ⟨fb, f * 2, none⟩ = _ := f0
        have e7 : wc.drew.frozen? ⟨fb, f * 2 + 1, none⟩ = false := fz _
        have e8 : wc.drew.cell? ⟨fb, f * 2 + 1, none⟩ = _ := f1
        have z0 : wc.drew.cell? ⟨w.heap.size, 0, none⟩ = _ := y0
        have hszd := str_size (fat d.files f).data
        have hdl : (fat d.files f).data.length ≤ 268435456 := Nat.le_trans (fat_in d d.room HN2.out.bd.data f) HN2.out.bd.room
        clear c2 c3 k0 k1 f0 f1 y0 y1 y2 y3 fz
        go_upto_region 17 with (fail)
        generalize hW6 : wc.drew = V at *
        clear hW6
        have HZT : Hid (d.armed = 1 → DoA w V A g w.heap.size [.int .i64 3, strV [], strV n, .int .i64 0] (.slice (some ⟨fb, 0, none⟩) d.files.length fc) (.slice (some ⟨qb, qo, none⟩) d.now.length nc) sv pv kv (dact { d with armed := d.armed - 1 } true (.sync n))) := fun _ => HDD.out
        have hL := (HDD.out.layCell rfl (f * 2 + 1) (.int .i64 ((fat d.files f).data.length : Nat)) (d.files.set f ⟨(fat d.files f).data, (fat d.files f).data.length⟩) (by simp) (cellsF_safe d.files f _ hfi)).below ((Below.refl _ _).drew)
        have HZF : Hid (d.armed ≠ 1 → DoA w ((V.setCell ⟨fb, f * 2 + 1, none⟩ (.int .i64 ((fat d.files f).data.length : Nat))).drew) A g w.heap.size [.int .i64 3, strV [], strV n, .int .i64 0] (.slice (some ⟨fb, 0, none⟩) d.files.length fc) (.slice (some ⟨qb, qo, none⟩) d.now.length nc) sv pv kv (dact { d with armed := d.armed - 1 } false (.sync n))) := fun _ => by
          have e : dact { d with armed := d.armed - 1 } false (.sync n) = { ({ d with armed := d.armed - 1 } : Dk) with files := d.files.set f ⟨(fat d.files f).data, (fat d.files f).data.length⟩ } := by
            show ({ ({ d with armed := d.armed - 1 } : Dk) with files := fmod d.files ((tget d.now n).getD 0) _ } : Dk) = _
            rw [HGET.out]
            rfl
          rw [e]
          exact hL
        have z1 := hL.box.cell 0
        simp only [List.getElem?_cons_zero] at z1
        clear hL HDD
        generalize (fat d.files f).data = dt at *
        by_cases hst : d.armed = 1
        · have hsb : decide (d.armed = 1) = true := by simp [hst]
          have hDz := HZT.out hst
          have HFC := Lib.hid (rFail_mid hDz.ref (HN2.out.stroke true (.sync n) HOO.out HOFF.out HRR.out) hN)
          obtain ⟨-, -, -, -, -, -, -, c7⟩ := hDz.ref.cells
          have hfe : (dact { d with armed := d.armed - 1 } true (.sync n)).fate = d.fate := dact_fate _ _ _
          rw [hfe] at HFC
          have HFIN := Lib.hid fun (e : Ending) (w' : World) hp => RdDo.struck HOFF.out HRR.out hst HN2.out HOO.out (RFailPost.mid (keep := d.fate) (e := e) (w' := w') hDz.stp hDz.lt hp)
          clear hDz HZT HZF hfe
          go_wp2_with (fail)
          refine HFC.out.mono ?_
          rintro e w9 hp9
          have e9 := hp9.1
          have hres := HFIN.out _ _ hp9
          subst e9
          have HRES := Lib.hid hres
          clear hp9 hres HFIN HFC
          go_wp2
          go_ret
          exact HRES.out
        · have hsb : decide (d.armed = 1) = false := by simp [hst]
          go_upto_region 18 with (fail)
          refine wp_region_still_lit (by kernel_rfl) (by kernel_rfl) ?_
          repeat still_step
          refine wpStill_nil ?_
          go_upto_region 24 with (fail)
          generalize (V.setCell ⟨fb, f * 2 + 1, none⟩ (.int .i64 (dt.length : Nat))).drew = w7 at *
          have hDz := HZF.out hst
          have HRES := Lib.hid (RdDo.calm HOFF.out HRR.out hst HN2.out HOO.out hDz.mid)
          clear hDz HZT HZF
          go_wp2
          go_ret
          exact HRES.out
    · have HRES := Lib.hid fun (w1 : World) (h : DoA w w1 A g w.heap.size [.int .i64 3, strV [], strV n, .int .i64 0] fv nv sv pv kv d) => RdDo.no (o := .sync n) HOFF.out hr HN2.out h.mid
      generalize drefused d (.sync n) = rr at *
      have i0 : ¬ ((rr : Int) = 0) := by omega
      have i1 : ((rr : Int) == 0) = false := by simp; omega
      have HREF := Lib.hid hrf
      clear hr hrf
      go_enter Tryz.func70, Tryz.ntmps70
      go_wp2_with (fail)
      refine HREF.out.mono ?_
      rintro e w1 ⟨rfl, hb1⟩
      have hres := HRES.out w1 (HST.out w1 hb1)
      have HR2 := Lib.hid hres
      clear hres hb1 HST HREF HRES y0 y1 y2 y3 c0
      go_wp2
      go_ret
      exact HR2.out
end Go.Proofs.YtfgpigblnkanpaaGreatDoor
