/- The walk of the statement DiskStruck. -/
import Derived.Test.YtfgpigblnkanpaaGreatDoorWs
import Derived.Test.YtfgpigblnkanpaaGreatDoorTwo
import Derived.Test.YtfgpigblnkanpaaGreatDoorPick
namespace Go.Proofs.YtfgpigblnkanpaaGreatDoor
open Go.RowKit Go.Maps Go.Shelf
set_option linter.unusedVariables false

/-- What the law's loop keeps. -/
def Su (w wr : World) (b0 : Nat) (fv : Value) (ga gb : Nat) (l : List Int) (m k i : Nat) : Prop := ∃ a b A B, Twin a b (m + 1 - k) l ∧ Two w wr [b0] A B ga gb a b (2 * i) ∧ Blk wr b0 [fv] 26
set_option maxHeartbeats 16000000 in
set_option maxRecDepth 100000 in
theorem DiskStruck_any (w : World) (v0 : Value) (ss0 : List Sp) (a1 : Int) (f2 : Value) (l2 : List Int) (hs0 : StepsAt w v0 ss0) (o0 : ∀ x ∈ ss0, SpOk x) (n0 : ss0.length ≤ 1048576) (w1 : (Lit.int .i64 a1).wf = true) (hi2 : IntsAt w f2 l2) (hk2 : ∃ a n c, f2 = .slice a n c) (nl2 : l2.length ≤ 1048576) (wf2 : wf64 l2) (hg : ErrorLaid w) :
    Calls Tryz.prog 6 #[v0, .int .i64 a1, .agg #[f2]] w fun e w' => e = .returned (.bool true) ∧ Below w.heap.size w w' := by
  obtain ⟨sa, sc, rfl⟩ := hs0.len
  obtain ⟨ka, kn, kc, rfl⟩ := hk2
  have hx := Blk.new w [.slice ka kn kc] 26
  have hb0 : Below w.heap.size w (w.alloc (.cells #[.slice ka kn kc] 26)) := (Below.refl _ w).alloc (Nat.le_refl _) _
  have hP := fun W => Pick_any a1 (ss0.length + 1) W (by omega) (by omega)
  have e1 : ((ss0.length + 1 : Nat) : Int) = (ss0.length : Int) + 1 := by omega
  obtain ⟨m, hm, hml⟩ : ∃ m : Nat, a1 % ((ss0.length : Int) + 1) = (m : Int) ∧ m ≤ ss0.length := by
    have h1 := Int.emod_nonneg a1 (b := (ss0.length : Int) + 1) (by omega)
    have h2 := Int.emod_lt_of_pos a1 (b := (ss0.length : Int) + 1) (by omega)
    exact ⟨(a1 % ((ss0.length : Int) + 1)).toNat, by omega, by omega⟩
  simp only [e1, hm] at hP
  have HP := Lib.hid hP
  have HX := Lib.hid hx
  have HB0 := Lib.hid hb0
  have HS := Lib.hid hs0
  have O0 := Lib.hid o0
  have HI := Lib.hid hi2
  have WF := Lib.hid wf2
  clear hP hx hb0 hs0 o0 hi2 wf2 w1 e1 hm
  go_enter Tryz.func6, Tryz.ntmps6
  go_wp2_with (fail)
  refine (New_m w _ HB0.out [w.heap.size] (fun k hk => by simp at hk; subst hk; simp) 65536).mono ?_
  rintro e w1 ⟨ga, A1, rfl, h1, hb1⟩
  have H1 := Lib.hid h1
  have HX1 := Lib.hid (HX.out.below hb1 HX.out.lt)
  clear h1 hb1
  go_wp2_with (fail)
  refine (New_two H1.out 65536).mono ?_
  rintro e w2 ⟨gb, B1, rfl, h2, hb2⟩
  have H2 := Lib.hid h2
  have HX2 := Lib.hid (HX1.out.below hb2 HX1.out.lt)
  clear h2 hb2
  go_wp2_with (fail)
  refine (works22_any w2 (hg.below H2.out.l.bel)).mono ?_
  rintro e w3 ⟨rfl, hb3⟩
  have H3 := Lib.hid (H2.out.below hb3)
  have hx3 := HX2.out.below hb3 HX2.out.lt
  have x0 := hx3.cell 0
  simp only [List.getElem?_cons_zero] at x0
  have HX3 := Lib.hid hx3
  clear hb3 hx3
  go_wp2_with (fail)
  refine (HP.out w3).mono ?_
  rintro e w4 ⟨rfl, rfl⟩
  have HA := Lib.hid (Arm_hd H3.out.l.hd (1 + (m : Int)) (.slice ka kn kc) l2 (HI.out.below H3.out.l.bel) (by omega) WF.out (by omega) (fun j hj => Nat.lt_of_lt_of_le (HI.out.uses j hj) H3.out.l.bel.size))
  go_wp2_with (fail)
  refine HA.out.mono ?_
  rintro e w5 ⟨rfl, ht5⟩
  obtain ⟨⟨A5, B5, h5⟩, hk5⟩ := H3.out.to_l (Nat.le_refl _) ht5
  have hx5 := HX3.out.same (hk5 _ (by simp))
  have htw : Twin (darm (dnew 65536) (1 + (m : Int)) l2) (dnew 65536) (m + 1 - 0) l2 := by
    have := Twin.new 65536 (k := m + 1) (by omega) l2
    rw [show ((m + 1 : Nat) : Int) = 1 + (m : Int) from by omega] at this
    exact this
  have hS0 : Su w w5 w.heap.size (.slice ka kn kc) ga gb l2 m 0 0 := ⟨_, _, A5, B5, htw, h5, hx5⟩
  have HS0 := Lib.hid hS0
  clear ht5 h5 hk5 hx5 htw hS0 x0
  go_wp2_with (fail)
  go_loopw [9, 10] (fun kv iv wr => ∃ k i : Nat, kv = .int .i64 k ∧ iv = .int .i64 i ∧ i ≤ ss0.length ∧ k ≤ i ∧ k ≤ m ∧ Hid (Su w wr w.heap.size (.slice ka kn kc) ga gb l2 m k i)) (fun _ iv _ => ss0.length - (intOf iv).toNat)
  case atStart => exact ⟨0, 0, rfl, rfl, Nat.zero_le _, Nat.zero_le _, Nat.zero_le _, HS0.out⟩
  case round =>
    obtain ⟨k, i, rfl, rfl, hi, hki, hkm, hst⟩ := hrel
    obtain ⟨a, b, A, B, htw, hT, hxb⟩ := hst.out
    by_cases hlt : i < ss0.length
    · obtain ⟨st, hsk⟩ : ∃ x, ss0[i]? = some x := ⟨_, List.getElem?_eq_getElem hlt⟩
      obtain ⟨sb, so, ma, mn, mc, rfl, c0, c1, c2, c3, c4, c5⟩ := HS.out.step hT.l.bel hsk
      have hOk := O0.out st (List.mem_of_getElem? hsk)
      have hb := Blk.new wr [.int .i64 st.do_, .int .i64 st.who, strV st.name, strV st.data, .int .i64 st.n, .slice ma mn mc] 36
      have y0 := hb.cell 0
      have y1 := hb.cell 1
      have y2 := hb.cell 2
      have y3 := hb.cell 3
      have y4 := hb.cell 4
      have y5 := hb.cell 5
      simp only [List.getElem?_cons_zero, List.getElem?_cons_succ] at y0 y1 y2 y3 y4 y5
      have hT6 := hT.add (.cells #[.int .i64 st.do_, .int .i64 st.who, strV st.name, strV st.data, .int .i64 st.n, .slice ma mn mc] 36)
      have hx6 := hxb.alloc (.cells #[.int .i64 st.do_, .int .i64 st.who, strV st.name, strV st.data, .int .i64 st.n, .slice ma mn mc] 36)
      by_cases h16 : st.do_ < 1 ∨ 6 < st.do_
      · have hS : Su w (wr.alloc (.cells #[.int .i64 st.do_, .int .i64 st.who, strV st.name, strV st.data, .int .i64 st.n, .slice ma mn mc] 36)) w.heap.size (.slice ka kn kc) ga gb l2 m k (i + 1) := ⟨a, b, A, B, htw, (hT6.less (fun j hj => List.mem_cons_of_mem _ hj)).mono (by omega), hx6⟩
        have HSS := Lib.hid hS
        clear hsk htw hT hxb hOk hb hT6 hx6 hS hst
        rcases h16 with h16 | h16
        · go_wp2
          go_roundw
          case rel => exact ⟨k, i + 1, rfl, by go_num, by omega, by omega, hkm, HSS.out⟩
          case measure => simp [intOf]; omega
        · have h17 : ¬ st.do_ < 1 := by omega
          go_wp2
          go_roundw
          case rel => exact ⟨k, i + 1, rfl, by go_num, by omega, by omega, hkm, HSS.out⟩
          case measure => simp [intOf]; omega
      · have h17 : ¬ st.do_ < 1 := by omega
        have h18 : ¬ 6 < st.do_ := by omega
        clear h16
        have HC := Lib.hid (change_l hT6 st ma mn mc (by omega) (by have := hOk.1; omega) (by have := hOk.2.1; omega))
        have hn1 : st.name.length ≤ 140737488355328 := by have := hOk.1; omega
        have hn2 : st.data.length ≤ 140737488355328 := by have := hOk.2.1; omega
        have HTW := Lib.hid htw
        have HBS := Lib.hid hb
        have HX6 := Lib.hid hx6
        obtain ⟨bs, ebs⟩ : ∃ bs, bs = wr.heap.size := ⟨_, rfl⟩
        clear hsk htw hT hxb hOk hb hT6 hx6 hst
        go_wp2_with (fail)
        refine HC.out.mono ?_
        rintro e w7 ⟨rfl, ht7⟩
        obtain ⟨⟨A7, B7, h7⟩, hk7⟩ := ht7
        have hbs7 := HBS.out.same (hk7 _ (by simp))
        have hx7 := HX6.out.same (hk7 _ (by simp))
        rw [← ebs] at h7 hbs7 ⊢
        clear c0 c1 c2 c3 c4 c5 y0 y1 y2 y3 y4 y5 HBS HX6 HC hk7 ebs
        have y0 := hbs7.cell 0
        have y1 := hbs7.cell 1
        have y2 := hbs7.cell 2
        have y3 := hbs7.cell 3
        have y4 := hbs7.cell 4
        have y5 := hbs7.cell 5
        simp only [List.getElem?_cons_zero, List.getElem?_cons_succ] at y0 y1 y2 y3 y4 y5
        have HC2 := Lib.hid (change_r h7 st ma mn mc (by omega) hn1 hn2)
        have H7 := Lib.hid h7
        have HBS7 := Lib.hid hbs7
        have HX7 := Lib.hid hx7
        clear h7 hbs7 hx7
        by_cases hr : drefused b (odOf st) = 0
        · by_cases hkm2 : k < m
          · obtain ⟨z1, z2, z3⟩ := HTW.out.early hr (by omega)
            rw [z1, errV_none]
            rw [z2, errV_none] at HC2
            have z4 : Twin (ddo a (odOf st)).1 (ddo b (odOf st)).1 (m + 1 - (k + 1)) l2 := by rw [show m + 1 - (k + 1) = m + 1 - k - 1 from by omega]; exact z3
            have HZ := Lib.hid z4
            clear z1 z2 z3 z4 hr
            go_wp2_with (fail)
            refine HC2.out.mono ?_
            rintro e w8 ⟨rfl, ⟨⟨A8, B8, h8⟩, hk8⟩⟩
            have hN1 := Num_nil w8
            have H8 := Lib.hid h8
            have HX8 := Lib.hid (HX7.out.same (hk8 _ (by simp)))
            have HN1 := Lib.hid hN1
            clear h8 hk8 y0 y1 y2 y3 y4 y5 hN1
            go_wp2_with (fail)
            refine HN1.out.mono ?_
            rintro e w9 ⟨rfl, hb9⟩
            have HN2 := Lib.hid (Num_nil w9)
            have HB9 := Lib.hid hb9
            clear hb9
            go_wp2_with (fail)
            refine HN2.out.mono ?_
            rintro e w10 ⟨rfl, hb10⟩
            have hb := HB9.out.trans (hb10.mono HB9.out.size)
            have hS : Su w w10 w.heap.size (.slice ka kn kc) ga gb l2 m (k + 1) (i + 1) := ⟨_, _, A8, B8, HZ.out, ((H8.out.below hb).less (fun j hj => List.mem_cons_of_mem _ hj)).mono (by omega), HX8.out.below hb HX8.out.lt⟩
            have HSS := Lib.hid hS
            clear hb10 hb hS
            go_wp2
            go_roundw
            case rel => exact ⟨k + 1, i + 1, by go_num, by go_num, by omega, by omega, by omega, HSS.out⟩
            case measure => simp [intOf]; omega
          · have hkm3 : k = m := by omega
            subst hkm3
            have htw1 := HTW.out
            rw [show k + 1 - k = 1 from by omega] at htw1
            obtain ⟨z1, z2, z3⟩ := htw1.stroke (odOf st) hr
            have hcb := htw1.calm
            have hcr := dbehind_crash hcb (odOf st) l2
            rw [z1, errV_some (by omega)]
            rw [z2] at H7 HC2
            have HN1 := Lib.hid (Num_errno 20 w7 (by omega) (by omega))
            rw [errV_some (by omega)] at HN1
            have HZ3 := Lib.hid z3
            have HCR := Lib.hid hcr
            have HCB := Lib.hid hcb
            clear z1 z2 z3 hr htw1 hcr hcb
            go_wp2_with (fail)
            refine HN1.out.mono ?_
            rintro e w8 ⟨rfl, hb8⟩
            have h8 := H7.out.below hb8
            have hx8 := HX7.out.below hb8 HX7.out.lt
            have hbs8 := HBS7.out.below hb8 HBS7.out.lt
            have HC3 := Lib.hid (change_r h8 st ma mn mc (by omega) hn1 hn2)
            have H8 := Lib.hid h8
            have HX8 := Lib.hid hx8
            clear y0 y1 y2 y3 y4 y5
            have y0 := hbs8.cell 0
            have y1 := hbs8.cell 1
            have y2 := hbs8.cell 2
            have y3 := hbs8.cell 3
            have y4 := hbs8.cell 4
            have y5 := hbs8.cell 5
            simp only [List.getElem?_cons_zero, List.getElem?_cons_succ] at y0 y1 y2 y3 y4 y5
            clear hb8 h8 hx8 hbs8 HC2 H7 HX7 HBS7 HN1
            go_upto_region 20 with (fail)
            go_cut [105] from 46 to 149 (fun c wx => c = .bool false ∧ Hid (∃ A B, Two w wx [bs, w.heap.size] A B ga gb (dfail (dbehind b (odOf st)) l2) (dbehind b (odOf st)) (2 * i + 1 + 1) ∧ Blk wx w.heap.size [.slice ka kn kc] 26))
            case first =>
              by_cases h36 : st.do_ = 3 ∨ st.do_ = 6
              · have hdb := dbehind_none (b := b) h36
                have hh : ∃ A B, Two w w8 [bs, w.heap.size] A B ga gb (dfail (dbehind b (odOf st)) l2) (dbehind b (odOf st)) (2 * i + 1 + 1) ∧ Blk w8 w.heap.size [.slice ka kn kc] 26 := ⟨A7, B7, by rw [hdb]; have := H8.out.mono (N' := 2 * i + 1 + 1) (by omega); rw [hdb] at this; exact this, HX8.out⟩
                have HH := Lib.hid hh
                clear hdb hh
                have h36' : (st.do_ ≤ 3 ∧ 3 ≤ st.do_) ∨ (st.do_ ≤ 6 ∧ 6 ≤ st.do_) := by omega
                clear h36
                rcases h36' with ⟨h3a, h3b⟩ | ⟨h3a, h3b⟩
                · go_wp2_with (fail)
                  go_meet
                  exact ⟨rfl, HH.out⟩
                · go_wp2_with (fail)
                  go_meet
                  exact ⟨rfl, HH.out⟩
              · obtain ⟨hdb, hns, hnf⟩ := dbehind_some (b := b) (s := st) (by omega) (by omega) (fun e => h36 (Or.inl e))
                have hz := HZ3.out hns hnf
                rw [hz, errV_none] at HC3
                have HDB := Lib.hid hdb
                have h3 : st.do_ < 3 ∨ 3 < st.do_ := by omega
                have h6 : st.do_ < 6 := by omega
                clear h36 hdb hns hnf hz
                rcases h3 with h3 | h3
                · go_wp2_with (fail)
                  refine HC3.out.mono ?_
                  rintro e w9 ⟨rfl, ⟨⟨A9, B9, h9⟩, hk9⟩⟩
                  have hh : ∃ A B, Two w w9 [bs, w.heap.size] A B ga gb (dfail (dbehind b (odOf st)) l2) (dbehind b (odOf st)) (2 * i + 1 + 1) ∧ Blk w9 w.heap.size [.slice ka kn kc] 26 := ⟨A9, B9, by rw [HDB.out] at h9 ⊢; exact h9, HX8.out.same (hk9 _ (by simp))⟩
                  have HH := Lib.hid hh
                  clear h9 hk9 hh
                  go_wp2_with (fail)
                  go_meet
                  exact ⟨rfl, HH.out⟩
                · go_wp2_with (fail)
                  refine HC3.out.mono ?_
                  rintro e w9 ⟨rfl, ⟨⟨A9, B9, h9⟩, hk9⟩⟩
                  have hh : ∃ A B, Two w w9 [bs, w.heap.size] A B ga gb (dfail (dbehind b (odOf st)) l2) (dbehind b (odOf st)) (2 * i + 1 + 1) ∧ Blk w9 w.heap.size [.slice ka kn kc] 26 := ⟨A9, B9, by rw [HDB.out] at h9 ⊢; exact h9, HX8.out.same (hk9 _ (by simp))⟩
                  have HH := Lib.hid hh
                  clear h9 hk9 hh
                  go_wp2_with (fail)
                  go_meet
                  exact ⟨rfl, HH.out⟩
            case rest =>
              obtain ⟨rfl, hc⟩ := hcut
              obtain ⟨A8, B8, h8, hx8⟩ := hc.out
              have x0 := hx8.cell 0
              simp only [List.getElem?_cons_zero] at x0
              have hcrs := Crash_hd h8.r.hd (by omega) (.slice ka kn kc) l2 (HI.out.below h8.l.bel) (fun j hj => ⟨Nat.lt_of_lt_of_le (HI.out.uses j hj) h8.l.bel.size, fun hm => by have h1 := h8.r.base j hm; have h2 := HI.out.uses j hj; omega⟩)
              rw [HCR.out] at hcrs
              have HCS := Lib.hid hcrs
              have H9 := Lib.hid h8
              clear y0 y1 y2 y3 y4 y5 hc h8 hx8 hcrs HC3 HZ3 H8 HX8 HCR
              generalize dbehind b (odOf st) = X at *
              go_wp2_with (fail)
              refine HCS.out.mono ?_
              rintro e w9 ⟨rfl, ht9⟩
              obtain ⟨⟨A9, B9, h9⟩, -⟩ := H9.out.to_r (Nat.le_refl _) ht9
              have hoffF : (dfail X l2).off = true := rfl
              have hli := List_hd h9.l.hd (by omega) [] (by simp)
              unfold ListPost at hli
              rw [if_pos hoffF, errV_some (by omega), show dlist (dfail X l2) [] = [] from by unfold dlist; rw [if_pos hoffF]] at hli
              have HLI := Lib.hid hli
              have H10 := Lib.hid h9
              clear ht9 h9 hli x0 HCS H9
              go_wp2_with (fail)
              refine HLI.out.mono ?_
              rintro e w10 ⟨lv, rfl, -, hln, hb10⟩
              obtain rfl := hln trivial
              have h11 := H10.out.below hb10
              have hp1 := Plain_same 20 w10 (by omega) (hg.below h11.l.bel)
              rw [errV_some (by omega)] at hp1
              have H11 := Lib.hid h11
              have HP1 := Lib.hid hp1
              clear hb10 h11 hp1 HLI H10 hln
              go_wp2_with (fail)
              refine HP1.out.mono ?_
              rintro e w11 ⟨rfl, hb11⟩
              have h12 := H11.out.below hb11
              have hp2 := Plain_same 20 w11 (by omega) (hg.below h12.l.bel)
              rw [errV_some (by omega)] at hp2
              have H12 := Lib.hid h12
              have HP2 := Lib.hid hp2
              clear hb11 h12 hp2 HP1 H11
              go_wp2_with (fail)
              refine HP2.out.mono ?_
              rintro e w12 ⟨rfl, hb12⟩
              have h13 := H12.out.below hb12
              have hus := Used_hd h13.l.hd (by omega)
              rw [show dused (dfail X l2) = 0 from by unfold dused; rw [if_pos hoffF]] at hus
              have HUS := Lib.hid hus
              have H13 := Lib.hid h13
              clear hb12 h13 hus HP2 H12
              go_wp2_with (fail)
              refine HUS.out.mono ?_
              rintro e w13 ⟨rfl, hb13⟩
              have h14 := H13.out.below hb13
              have HRV := Lib.hid (Revive_hd h14.l.hd)
              have H14 := Lib.hid h14
              clear hb13 h14 HUS H13
              go_wp2_with (fail)
              refine HRV.out.mono ?_
              rintro e w14 ⟨rfl, ht14⟩
              obtain ⟨⟨A14, B14, h15⟩, -⟩ := H14.out.to_l (Nat.le_refl _) ht14
              have HRV2 := Lib.hid (Revive_hd h15.r.hd)
              have H15 := Lib.hid h15
              clear ht14 h15 HRV H14
              go_wp2_with (fail)
              refine HRV2.out.mono ?_
              rintro e w15 ⟨rfl, ht15⟩
              obtain ⟨⟨A15, B15, h16⟩, -⟩ := H15.out.to_r (Nat.le_refl _) ht15
              have hoffA : (drevive (dfail X l2)).off = false := rfl
              have H16 := Lib.hid h16
              clear ht15 h16 HRV2 H15 hoffF
              generalize drevive (dfail X l2) = D at *
              obtain ⟨ns, ds, hsh⟩ : ∃ ns ds, dshown D = (ns, ds) := ⟨_, _, rfl⟩
              have hnb : ns.length ≤ 2097300 ∧ ds.length ≤ 2097300 := by
                obtain ⟨h1, h2⟩ := dshown_len D
                rw [hsh] at h1 h2
                have := H16.out.r.hd.bd.now
                simp only at h1 h2
                omega
              have HSHA := Lib.hid (shown_any w15 _ ga _ _ H16.out.l.hd (by omega))
              have HSH := Lib.hid hsh
              have HNB := Lib.hid hnb
              clear hsh hnb
              go_wp2_with (fail)
              refine HSHA.out.mono ?_
              rintro e wA ⟨u, v, rfl, hr, -, -, hbA⟩
              obtain ⟨hu, hv⟩ := hr hoffA
              rw [HSH.out] at hu hv
              rw [hoffA, Bool.not_false]
              obtain ⟨ua, uc, rfl, -⟩ := hu.shape
              obtain ⟨va, vc, rfl, -⟩ := hv.shape
              simp only [List.length_map] at hu hv
              have hxA := Blk.new wA [.slice ua ns.length uc, .slice va ds.length vc] 43
              have hbs : Below wA.heap.size wA (wA.alloc (.cells #[.slice ua ns.length uc, .slice va ds.length vc] 43)) := (Below.refl _ _).alloc (Nat.le_refl _) _
              have hbb : Below (w15).heap.size w15 (wA.alloc (.cells #[.slice ua ns.length uc, .slice va ds.length vc] 43)) := hbA.alloc hbA.size _
              have htwo := H16.out.below hbb
              have HSHB := Lib.hid (shown_any _ _ gb _ _ htwo.r.hd (by omega))
              have HTWO := Lib.hid htwo
              have HXA := Lib.hid hxA
              have HU := Lib.hid (hu.below hbs)
              have HV := Lib.hid (hv.below hbs)
              clear hr hu hv hxA hbs hbb htwo hbA
              go_wp2_with (fail)
              refine HSHB.out.mono ?_
              rintro e wB ⟨u2, v2, rfl, hr, -, -, hbB⟩
              obtain ⟨hu, hv⟩ := hr hoffA
              rw [HSH.out] at hu hv
              rw [hoffA, Bool.not_false]
              obtain ⟨ua2, uc2, rfl, -⟩ := hu.shape
              obtain ⟨va2, vc2, rfl, -⟩ := hv.shape
              simp only [List.length_map] at hu hv
              have hxB := Blk.new wB [.slice ua2 ns.length uc2, .slice va2 ds.length vc2] 43
              have hbs : Below wB.heap.size wB (wB.alloc (.cells #[.slice ua2 ns.length uc2, .slice va2 ds.length vc2] 43)) := (Below.refl _ _).alloc (Nat.le_refl _) _
              have hbb := hbB.alloc hbB.size (.cells #[.slice ua2 ns.length uc2, .slice va2 ds.length vc2] 43)
              have p := HXA.out.below hbb HXA.out.lt
              have p0 := p.cell 0
              have p1 := p.cell 1
              have q0 := hxB.cell 0
              have q1 := hxB.cell 1
              simp only [List.getElem?_cons_zero, List.getElem?_cons_succ] at p0 p1 q0 q1
              have hsa := same_any _ _ _ _ _ ns ds ns ds (HU.out.below hbb) (HV.out.below hbb) (hu.below hbs) (hv.below hbs) (by have := HNB.out; omega) (by have := HNB.out; omega) (by have := HNB.out; omega) (by have := HNB.out; omega)
              rw [show decide ((ns, ds) = (ns, ds)) = true from by simp] at hsa
              have HSA := Lib.hid hsa
              have HBE := Lib.hid (HTWO.out.l.bel.trans (hbb.mono HTWO.out.l.bel.size))
              have HBZ := Lib.hid (HTWO.out.l.bel.size)
              have HB3 := Lib.hid hbb
              clear hr hu hv hxB hbs hbb p hsa hbB
              go_wp2_with (fail)
              refine HSA.out.mono ?_
              rintro e wE ⟨rfl, hbE⟩
              have HE := Lib.hid (HBE.out.trans (hbE.mono (Nat.le_trans HBZ.out HB3.out.size)))
              clear hbE p0 p1 q0 q1
              go_wp2
              go_ret
              exact ⟨rfl, HE.out⟩
        · obtain ⟨z1, z2⟩ := HTW.out.refused hr
          obtain ⟨hrle, hr20⟩ := drefused_le b (odOf st)
          rw [z1]
          rw [z1] at H7
          simp only at H7
          generalize hrr0 : drefused b (odOf st) = r at *
          clear hrr0 z1 HC2
          have hr0 : r ≠ 0 := hr
          have hr1 : 1 ≤ r := by omega
          have hr2 : r ≤ 25 := by omega
          simp only
          rw [errV_some hr0]
          clear hr
          by_cases hkm2 : k < m
          · clear y0 y1 y2 y3 y4 y5
            have hc3 := change_r H7.out st ma mn mc (by omega) hn1 hn2
            rw [z2] at hc3
            simp only at hc3
            rw [errV_some hr0] at hc3
            have HC3 := Lib.hid hc3
            have hbb := HBS7.out
            have y0 := hbb.cell 0
            have y1 := hbb.cell 1
            have y2 := hbb.cell 2
            have y3 := hbb.cell 3
            have y4 := hbb.cell 4
            have y5 := hbb.cell 5
            simp only [List.getElem?_cons_zero, List.getElem?_cons_succ] at y0 y1 y2 y3 y4 y5
            clear hc3 hbb z2
            go_wp2_with (fail)
            refine HC3.out.mono ?_
            rintro e w9 ⟨rfl, ⟨⟨A9, B9, h9⟩, hk9⟩⟩
            have hn9 := Num_errno r w9 hr1 hr2
            rw [errV_some hr0] at hn9
            have HN9 := Lib.hid hn9
            have H9 := Lib.hid h9
            have HX9 := Lib.hid (HX7.out.same (hk9 _ (by simp)))
            clear h9 hk9 hn9 y0 y1 y2 y3 y4 y5
            go_wp2_with (fail)
            refine HN9.out.mono ?_
            rintro e w10 ⟨rfl, hb10⟩
            have hn10 := Num_errno r w10 hr1 hr2
            rw [errV_some hr0] at hn10
            have HN10 := Lib.hid hn10
            have HB10 := Lib.hid hb10
            clear hb10 hn10
            go_wp2_with (fail)
            refine HN10.out.mono ?_
            rintro e w11 ⟨rfl, hb11⟩
            have hb := HB10.out.trans (hb11.mono HB10.out.size)
            have hS : Su w w11 w.heap.size (.slice ka kn kc) ga gb l2 m k (i + 1) := ⟨_, _, A9, B9, HTW.out, ((H9.out.below hb).less (fun j hj => List.mem_cons_of_mem _ hj)).mono (by omega), HX9.out.below hb HX9.out.lt⟩
            have HSS := Lib.hid hS
            have hrr : ((r : Int) == (r : Int)) = true := by simp
            clear hb11 hb hS
            go_wp2
            go_roundw
            case rel => exact ⟨k, i + 1, rfl, by go_num, by omega, by omega, hkm, HSS.out⟩
            case measure => simp [intOf]; omega
          · have hkm3 : ¬ k + 1 < 1 + m := by omega
            have hn7 := Num_errno r w7 hr1 hr2
            rw [errV_some hr0] at hn7
            have HN7 := Lib.hid hn7
            have hq1 : ((r : Int) == 20) = false := by simp; omega
            have hq2 : ((r : Int) != 20) = true := by simp; omega
            clear hn7 y0 y1 y2 y3 y4 y5
            go_wp2_with (fail)
            refine HN7.out.mono ?_
            rintro e w8 ⟨rfl, hb8⟩
            have H8 := Lib.hid (H7.out.below hb8)
            have HX8 := Lib.hid (HX7.out.below hb8 HX7.out.lt)
            have HBS8 := Lib.hid (HBS7.out.below hb8 HBS7.out.lt)
            clear hb8
            have hc3 := change_r H8.out st ma mn mc (by omega) hn1 hn2
            rw [z2] at hc3
            simp only at hc3
            rw [errV_some hr0] at hc3
            have HC3 := Lib.hid hc3
            have hbb := HBS8.out
            have y0 := hbb.cell 0
            have y1 := hbb.cell 1
            have y2 := hbb.cell 2
            have y3 := hbb.cell 3
            have y4 := hbb.cell 4
            have y5 := hbb.cell 5
            simp only [List.getElem?_cons_zero, List.getElem?_cons_succ] at y0 y1 y2 y3 y4 y5
            clear hc3 hbb z2
            go_wp2_with (fail)
            refine HC3.out.mono ?_
            rintro e w9 ⟨rfl, ⟨⟨A9, B9, h9⟩, hk9⟩⟩
            have hn9 := Num_errno r w9 hr1 hr2
            rw [errV_some hr0] at hn9
            have HN9 := Lib.hid hn9
            have H9 := Lib.hid h9
            have HX9 := Lib.hid (HX8.out.same (hk9 _ (by simp)))
            clear h9 hk9 hn9 y0 y1 y2 y3 y4 y5
            go_wp2_with (fail)
            refine HN9.out.mono ?_
            rintro e w10 ⟨rfl, hb10⟩
            have hn10 := Num_errno r w10 hr1 hr2
            rw [errV_some hr0] at hn10
            have HN10 := Lib.hid hn10
            have HB10 := Lib.hid hb10
            clear hb10 hn10
            go_wp2_with (fail)
            refine HN10.out.mono ?_
            rintro e w11 ⟨rfl, hb11⟩
            have hb := HB10.out.trans (hb11.mono HB10.out.size)
            have hS : Su w w11 w.heap.size (.slice ka kn kc) ga gb l2 m k (i + 1) := ⟨_, _, A9, B9, HTW.out, ((H9.out.below hb).less (fun j hj => List.mem_cons_of_mem _ hj)).mono (by omega), HX9.out.below hb HX9.out.lt⟩
            have HSS := Lib.hid hS
            have hrr : ((r : Int) == (r : Int)) = true := by simp
            clear hb11 hb hS
            go_wp2
            go_roundw
            case rel => exact ⟨k, i + 1, rfl, by go_num, by omega, by omega, hkm, HSS.out⟩
            case measure => simp [intOf]; omega
    · obtain rfl : i = ss0.length := by omega
      obtain ⟨hsame, hoffA, hoffB⟩ := htw.shown
      have H16 := Lib.hid hT
      have HSAME := Lib.hid hsame
      clear htw hT hxb hst hsame
      obtain ⟨ns, ds, hsh⟩ : ∃ ns ds, dshown b = (ns, ds) := ⟨_, _, rfl⟩
      have hnb : ns.length ≤ 2097300 ∧ ds.length ≤ 2097300 := by
        obtain ⟨h1, h2⟩ := dshown_len b
        rw [hsh] at h1 h2
        have := H16.out.r.hd.bd.now
        simp only at h1 h2
        omega
      have HSHA := Lib.hid (shown_any wr _ ga _ _ H16.out.l.hd (by omega))
      have HSH := Lib.hid hsh
      have HNB := Lib.hid hnb
      clear hsh hnb
      go_wp2_with (fail)
      refine HSHA.out.mono ?_
      rintro e wA ⟨u, v, rfl, hr, -, -, hbA⟩
      obtain ⟨hu, hv⟩ := hr hoffA
      rw [HSAME.out, HSH.out] at hu hv
      rw [hoffA, Bool.not_false]
      obtain ⟨ua, uc, rfl, -⟩ := hu.shape
      obtain ⟨va, vc, rfl, -⟩ := hv.shape
      simp only [List.length_map] at hu hv
      have hxA := Blk.new wA [.slice ua ns.length uc, .slice va ds.length vc] 43
      have hbs : Below wA.heap.size wA (wA.alloc (.cells #[.slice ua ns.length uc, .slice va ds.length vc] 43)) := (Below.refl _ _).alloc (Nat.le_refl _) _
      have hbb : Below (wr).heap.size wr (wA.alloc (.cells #[.slice ua ns.length uc, .slice va ds.length vc] 43)) := hbA.alloc hbA.size _
      have htwo := H16.out.below hbb
      have HSHB := Lib.hid (shown_any _ _ gb _ _ htwo.r.hd (by omega))
      have HTWO := Lib.hid htwo
      have HXA := Lib.hid hxA
      have HU := Lib.hid (hu.below hbs)
      have HV := Lib.hid (hv.below hbs)
      clear hr hu hv hxA hbs hbb htwo hbA
      go_wp2_with (fail)
      refine HSHB.out.mono ?_
      rintro e wB ⟨u2, v2, rfl, hr, -, -, hbB⟩
      obtain ⟨hu, hv⟩ := hr hoffB
      rw [HSH.out] at hu hv
      rw [hoffB, Bool.not_false]
      obtain ⟨ua2, uc2, rfl, -⟩ := hu.shape
      obtain ⟨va2, vc2, rfl, -⟩ := hv.shape
      simp only [List.length_map] at hu hv
      have hxB := Blk.new wB [.slice ua2 ns.length uc2, .slice va2 ds.length vc2] 43
      have hbs : Below wB.heap.size wB (wB.alloc (.cells #[.slice ua2 ns.length uc2, .slice va2 ds.length vc2] 43)) := (Below.refl _ _).alloc (Nat.le_refl _) _
      have hbb := hbB.alloc hbB.size (.cells #[.slice ua2 ns.length uc2, .slice va2 ds.length vc2] 43)
      have p := HXA.out.below hbb HXA.out.lt
      have p0 := p.cell 0
      have p1 := p.cell 1
      have q0 := hxB.cell 0
      have q1 := hxB.cell 1
      simp only [List.getElem?_cons_zero, List.getElem?_cons_succ] at p0 p1 q0 q1
      have hsa := same_any _ _ _ _ _ ns ds ns ds (HU.out.below hbb) (HV.out.below hbb) (hu.below hbs) (hv.below hbs) (by have := HNB.out; omega) (by have := HNB.out; omega) (by have := HNB.out; omega) (by have := HNB.out; omega)
      rw [show decide ((ns, ds) = (ns, ds)) = true from by simp] at hsa
      have HSA := Lib.hid hsa
      have HBE := Lib.hid (HTWO.out.l.bel.trans (hbb.mono HTWO.out.l.bel.size))
      have HBZ := Lib.hid (HTWO.out.l.bel.size)
      have HB3 := Lib.hid hbb
      clear hr hu hv hxB hbs hbb p hsa hbB
      go_wp2_with (fail)
      refine HSA.out.mono ?_
      rintro e wE ⟨rfl, hbE⟩
      have HE := Lib.hid (HBE.out.trans (hbE.mono (Nat.le_trans HBZ.out HB3.out.size)))
      clear hbE p0 p1 q0 q1
      go_wp2
      go_ret
      exact ⟨rfl, HE.out⟩
end Go.Proofs.YtfgpigblnkanpaaGreatDoor
