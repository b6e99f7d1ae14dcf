/- A disk and the document's, beside each other: Arm. (printed by gen/gen_pstep.py) A disk and the document's, beside each other: Crash. (printed by gen/gen_pstep.py) -/
import Derived.Test.YtfgpigblnkanpaaGreatDoorGM
import Derived.Test.YtfgpigblnkanpaaGreatDoorGO
namespace Go.Proofs.YtfgpigblnkanpaaGreatDoor
open Go.RowKit Go.Maps Go.Shelf
set_option linter.unusedVariables false
set_option linter.unusedSimpArgs false

set_option maxHeartbeats 8000000 in
set_option maxRecDepth 100000 in
theorem pstep_arm (w : World) (A : List Nat) (g r : Nat) (d : Dk) (N : Nat) (s : Sp) (ka : Option Addr) (kn kc : Nat) (h : Pr2 g r d d N w A) (hN : N ≤ 1073741824) (hok : SpOk s) (hi : IntsAt w (.slice ka kn kc) s.keep) (hkA : ∀ j, usesOf (.slice ka kn kc) s.keep = some j → j ∉ A) (hd : s.do_ = 9) :
    Calls Tryz.prog 23 #[.agg #[.pointer (some ⟨g, 0, none⟩), .pointer (some ⟨r, 0, none⟩)], .agg (s.cells (.slice ka kn kc)).toArray] w fun e w' => e = .returned (.bool true) ∧ ResTo (Pr2 g r (darm d s.n s.keep) (darm d s.n s.keep) N) A w w' := by
  have hlt := (Pr2.res g r d d N).lt h
  have hS := stepW_below w g r s (.slice ka kn kc)
  have hH := (Pr2.res g r d d N).below h hS
  have hi0 := hi.below hS
  have hju := hi.uses
  have hkn : kn = s.keep.length := by obtain ⟨_, _, e⟩ := hi.len; simp only [Value.slice.injEq] at e; exact e.2.1
  obtain ⟨hx, hy⟩ := stepW_boxes w g r s (.slice ka kn kc)
  have y0 := hy.cell 0
  have y5 := hy.cell 5
  have hkl : s.keep.length ≤ 1048576 := hok.2.2.1
  have hLF := LentFate_any (stepW w g r s (.slice ka kn kc)) (.slice ka kn kc) s.keep hi0 (by omega)
  have HH := Lib.hid hH
  have HI0 := Lib.hid hi0
  have HOK := Lib.hid hok
  have HS := Lib.hid hS
  have HX := Lib.hid hx
  have HY := Lib.hid hy
  have HLT := Lib.hid hlt
  have HKA := Lib.hid hkA
  have HJU := Lib.hid hju
  have HLF := Lib.hid hLF
  obtain ⟨do_, who, name, data, n, keep⟩ := s
  simp only at hd hkl hkn
  subst hd
  subst hkn
  unfold Sp.cells at HY y0 y5 ⊢
  simp only [List.getElem?_cons_zero, List.getElem?_cons_succ] at y0 y5
  simp only at *
  have hsz0 := HS.out.size
  have hszx := HX.out.lt
  have hszy := HY.out.lt
  unfold stepW at y0 y5
  simp only at y0 y5
  clear h hH hi hi0 hju hok hkA hS hx hy hlt hLF
  go_enter Tryz.func23, Tryz.ntmps23
  go_wp2_with (fail)
  change Calls _ _ _ (stepW w g r ⟨9, who, name, data, n, keep⟩ (.slice ka keep.length kc)) _
  clear y0 y5
  generalize stepW w g r ⟨9, who, name, data, n, keep⟩ (.slice ka keep.length kc) = W0 at *
  refine HLF.out.mono ?_
  rintro e w1 ⟨b, cap, rfl, hb, hbl, hcap, hmax, hown, hb1⟩
  have hB2 : Below w1.heap.size w1 (w1.alloc (.cells #[.slice (some ⟨b, 0, none⟩) keep.length cap] 26)) := (Below.refl _ _).alloc (Nat.le_refl _) _
  have hX2 := Blk.new w1 [.slice (some ⟨b, 0, none⟩) keep.length cap] 26
  have hB02 := hb1.trans (hB2.mono hb1.size)
  have hs1 := hb1.size
  have hP2 := (Pr2.res g r d d N).below HH.out hB02
  have hx2 := HX.out.below hB02 hszx
  have hy2 := HY.out.below hB02 hszy
  have ho2 := row_below hown hB2
  have hi2 := HI0.out.below hB02
  have hib : IntsAt (w1.alloc (.cells #[.slice (some ⟨b, 0, none⟩) keep.length cap] 26)) (.slice (some ⟨b, 0, none⟩) keep.length cap) keep := IntsAt.of_own (m := marksI 16) ho2 (by omega) hmax
  generalize hW2 : w1.alloc (.cells #[.slice (some ⟨b, 0, none⟩) keep.length cap] 26) = W2 at *
  have hbA : b ∉ A := fun hm => by have := HLT.out b hm; omega
  have hbW2 : b < W2.heap.size := Nat.lt_of_lt_of_le hbl hB2.size
  have hXW2 : w1.heap.size < W2.heap.size := hX2.lt
  have x20 := hx2.cell 0
  have y20 := hy2.cell 0
  have y24 := hy2.cell 4
  have z2 := hX2.cell 0
  simp only [List.getElem?_cons_zero, List.getElem?_cons_succ] at x20 y20 y24 z2
  have hC1 := Both.callLs (E := fun e => e = .returned (.tuple #[])) (R' := fun w A => Hd w A g (darm d n keep) N) (Rd2.res r d N) (Hd.res _ _ _) hP2 fun A1 hA1 _ => Arm_hd hA1 n (.slice (some ⟨b, 0, none⟩) keep.length cap) keep hib (by omega) HOK.out.2.2.2.1 HOK.out.2.2.2.2.1.2 hib.uses
  have HC1 := Lib.hid hC1
  have HP2 := Lib.hid hP2
  have HX2 := Lib.hid hX2
  have HBX := Lib.hid hx2
  have HBY := Lib.hid hy2
  have HO2 := Lib.hid ho2
  have HI2 := Lib.hid hi2
  have HB02 := Lib.hid hB02
  clear hP2 hX2 hx2 hy2 ho2 hi2 hib hown hb1 hB2 hB02 hC1 HLF
  go_wp2_with (first | (rw [hW2]) | fail)
  refine HC1.out.mono ?_
  rintro e w3 ⟨rfl, A3, hB3, hs3⟩
  have hnA : ∀ k, k < W2.heap.size → k ∉ A → k ∉ A3 := fun k hk hn hm => by
    rcases hs3.inn k hm with h9 | h9
    · exact hn h9
    · omega
  have hxA : w.heap.size ∉ A := fun hm => by have := HLT.out _ hm; omega
  have hyA : w.heap.size + 1 ∉ A := fun hm => by have := HLT.out _ hm; omega
  have hzA : w1.heap.size ∉ A := fun hm => by have := HLT.out _ hm; omega
  have hx3 := hs3.blk HBX.out hxA
  have hy3 := hs3.blk HBY.out hyA
  have hz3 := hs3.blk HX2.out hzA
  have hi3 : IntsAt w3 (.slice ka keep.length kc) keep := HI2.out.same fun j hj => hs3.block j (HI2.out.uses j hj) (HKA.out j hj)
  have x31 := hx3.cell 1
  have y34 := hy3.cell 4
  have y35 := hy3.cell 5
  simp only [List.getElem?_cons_zero, List.getElem?_cons_succ] at x31 y34 y35
  have hC2 := Both.callRs (E := fun e => e = .returned (.tuple #[])) (S' := fun w A => Rd2 w A r (darm d n keep) N) (Hd.res g (darm d n keep) N) (Rd2.res _ _ _) hB3 fun A2 hA2 hsub => rArm_rd hA2 n (.slice ka keep.length kc) keep hi3 (by omega) HOK.out.2.2.2.2.1.2 HOK.out.2.2.2.1 (fun j hj e => hnA j (HI2.out.uses j hj) (HKA.out j hj) (hsub j (e ▸ hA2.mem)))
  have HC2 := Lib.hid hC2
  have HS3 := Lib.hid hs3
  have HX3 := Lib.hid hx3
  have HY3 := Lib.hid hy3
  have HZ3 := Lib.hid hz3
  have HI3 := Lib.hid hi3
  have HNA := Lib.hid hnA
  have hsz3 := hs3.size
  clear hB3 hs3 hx3 hy3 hz3 hi3 hnA hC2 HC1 x20 y20 y24 z2
  go_wp2_with (fail)
  refine HC2.out.mono ?_
  rintro e w4 ⟨rfl, A4, hB4, hs4⟩
  have hsz4 := hs4.size
  have hy4 := hs4.blk HY3.out (HNA.out _ (by omega) hyA)
  have hz4 := hs4.blk HZ3.out (HNA.out _ hXW2 hzA)
  have hbA3 : b ∉ A3 := HNA.out b hbW2 hbA
  have hbA4 : b ∉ A4 := fun hm => by
    rcases hs4.inn b hm with h9 | h9
    · exact hbA3 h9
    · omega
  have ho4 : w4.ownsRow 0 3 1 (.slice (some ⟨b, 0, none⟩) (keep.length + 16) cap) (keep.length + 16) ((keep ++ marksI 16).map (Value.int .i64)) := ownsRow_same HO2.out fun k hk => by
    have e : k = b := by simpa [Value.ownBlock, eq_comm] using hk
    subst e
    exact (hs4.block _ (by omega) hbA3).trans (HS3.out.block _ hbW2 hbA)
  have hi4 : IntsAt w4 (.slice ka keep.length kc) keep := HI3.out.same fun j hj => hs4.block j (HI3.out.uses j hj) (HNA.out j (HI2.out.uses j hj) (HKA.out j hj))
  have hKF := KeptFate_any w4 b cap (.slice ka keep.length kc) keep hcap hmax ho4 hi4 (by omega)
  have hSt : Stp A A4 w w4 := (Stp.of_below (A := A) (B := A) (HS.out.trans (HB02.out.mono HS.out.size)) fun k hk => Or.inl hk).trans (HS3.out.trans hs4)
  have z40 := hz4.cell 0
  have y45 := hy4.cell 5
  simp only [List.getElem?_cons_zero, List.getElem?_cons_succ] at z40 y45
  have HKF := Lib.hid hKF
  have HB4 := Lib.hid hB4
  have HST := Lib.hid hSt
  have HO4 := Lib.hid ho4
  have HZ4 := Lib.hid hz4
  clear hB4 hs4 hy4 hz4 ho4 hi4 hKF hSt HC2 x31 y34 y35
  go_wp2_with (fail)
  refine HKF.out.mono ?_
  rintro e w5 ⟨rfl, hb5⟩
  have hsz5 := hb5.size
  have hz5 := HZ4.out.below hb5 HZ4.out.lt
  have ho5 := row_below HO4.out hb5
  have HB5 := Lib.hid ((Pr2.res g r (darm d n keep) (darm d n keep) N).below HB4.out hb5)
  have HST5 := Lib.hid (HST.out.trans (Stp.of_below (A := A4) (B := A4) hb5 fun k hk => Or.inl hk))
  have HZ5 := Lib.hid hz5
  have HO5 := Lib.hid ho5
  clear hb5 hz5 ho5 HKF HB4 HST HO4 HZ4 z40 y45
  go_wp2_with (fail)
  go_loopw [17] (fun iv wr => ∃ k : Nat, ∃ xs : List Value, iv = .int .i64 k ∧ k ≤ keep.length ∧ Hid (Stp [b] [b] w5 wr) ∧ Hid (wr.ownsRow 0 3 1 (.slice (some ⟨b, 0, none⟩) (keep.length + 16) cap) (keep.length + 16) xs) ∧ Hid (∀ j x, k ≤ j → keep[j]? = some x → xs[j]? = some (.int .i64 x))) (fun iv _ => keep.length - (intOf iv).toNat)
  case atStart => exact ⟨0, _, rfl, Nat.zero_le _, Stp.refl _ _, HO5.out, fun j x _ hx => by rw [List.getElem?_map, List.getElem?_append_left ((List.getElem?_eq_some_iff.1 hx).1), hx]; rfl⟩
  case round =>
    clear HO5
    obtain ⟨k, xs, rfl, hk, hst, hor, hxs⟩ := hrel
    have hne : w1.heap.size ∉ [b] := by simp; omega
    have hzr := hst.out.blk HZ5.out hne
    have zr := hzr.cell 0
    simp only [List.getElem?_cons_zero] at zr
    by_cases hlt : k < keep.length
    · obtain ⟨x, hx⟩ : ∃ x, keep[k]? = some x := ⟨_, List.getElem?_eq_getElem hlt⟩
      have hxk := hxs.out k x (Nat.le_refl _) hx
      have ck := (hor.out.cellAt k (by omega)).trans hxk
      have fk := hor.out.frozenAt k
      have ik0 : (0 : Int) ≤ (k : Int) := by omega
      have ik1 : (k : Int) < (keep.length : Int) := by omega
      have hor2 := (hor.out.stored k (.int .i64 (wrap64 (x + 1)))).1
      have hor3 := row_below hor2 ((Below.refl _ _).drew)
      have hst2 : Stp [b] [b] w5 ((wr.setCell ⟨b, k, none⟩ (.int .i64 (wrap64 (x + 1)))).drew) := (hst.out.trans (Stp.of_set (A := [b]) (B := [b]) wr ⟨b, k, none⟩ _ (by simp) fun j hj => Or.inl hj)).trans (Stp.of_below (A := [b]) (B := [b]) ((Below.refl _ _).drew) fun j hj => Or.inl hj)
      have hxs2 : ∀ j y, k + 1 ≤ j → keep[j]? = some y → (xs.set k (.int .i64 (wrap64 (x + 1))))[j]? = some (.int .i64 y) := fun j y hj hy => by
        rw [List.getElem?_set_ne (by omega)]
        exact hxs.out j y (by omega) hy
      have HOR3 := Lib.hid hor3
      have HST2 := Lib.hid hst2
      have HXS2 := Lib.hid hxs2
      clear hx hxk hor2 hor3 hst2 hxs2 hzr hst hor hxs
      go_upto_region 34 with (fail)
      generalize hWR : wr = V at *
      refine wp_region_still_tail 10 (by kernel_rfl) (by kernel_rfl) ?_
      simp only [List.take_succ_cons, List.take_zero, List.drop_succ_cons, List.drop_zero]
      repeat still_step
      refine wpStill_nil ?_
      go_wp2
      go_roundw
      case rel => exact ⟨k + 1, _, by go_num, by omega, HST2.out, HOR3.out, HXS2.out⟩
      case measure => simp [intOf]; omega
    · have hbA4' : ∀ j ∈ A4, j ∉ [b] := fun j hj hm => by simp at hm; subst hm; exact hbA4 hj
      have hPr := (Pr2.res g r (darm d n keep) (darm d n keep) N).other HB5.out hst.out hbA4'
      have hfin : Stp A A4 w wr := ⟨hst.out.os.trans HST5.out.os, hst.out.tape.trans HST5.out.tape, hst.out.output.trans HST5.out.output, Nat.le_trans HST5.out.size hst.out.size, fun j hj hn => (hst.out.block j (Nat.lt_of_lt_of_le hj HST5.out.size) (by simp; omega)).trans (HST5.out.block j hj hn), HST5.out.inn⟩
      have HRES : Hid (ResTo (Pr2 g r (darm d n keep) (darm d n keep) N) A w wr) := ⟨A4, hPr, hfin⟩
      clear hPr hfin hbA4' hzr hst hor hxs
      go_wp2
      go_ret
      exact ⟨rfl, HRES.out⟩
end Go.Proofs.YtfgpigblnkanpaaGreatDoor

namespace Go.Proofs.YtfgpigblnkanpaaGreatDoor
open Go.RowKit Go.Maps Go.Shelf
set_option linter.unusedVariables false
set_option linter.unusedSimpArgs false

set_option maxHeartbeats 8000000 in
set_option maxRecDepth 100000 in
theorem pstep_crash (w : World) (A : List Nat) (g r : Nat) (d : Dk) (N : Nat) (s : Sp) (ka : Option Addr) (kn kc : Nat) (h : Pr2 g r d d N w A) (hN : N ≤ 1073741824) (hok : SpOk s) (hi : IntsAt w (.slice ka kn kc) s.keep) (hkA : ∀ j, usesOf (.slice ka kn kc) s.keep = some j → j ∉ A) (hd : s.do_ = 10) :
    Calls Tryz.prog 23 #[.agg #[.pointer (some ⟨g, 0, none⟩), .pointer (some ⟨r, 0, none⟩)], .agg (s.cells (.slice ka kn kc)).toArray] w fun e w' => e = .returned (.bool true) ∧ ResTo (Pr2 g r (dcrash d s.keep) (dcrash d s.keep) N) A w w' := by
  have hlt := (Pr2.res g r d d N).lt h
  have hS := stepW_below w g r s (.slice ka kn kc)
  have hH := (Pr2.res g r d d N).below h hS
  have hi0 := hi.below hS
  have hju := hi.uses
  have hkn : kn = s.keep.length := by obtain ⟨_, _, e⟩ := hi.len; simp only [Value.slice.injEq] at e; exact e.2.1
  obtain ⟨hx, hy⟩ := stepW_boxes w g r s (.slice ka kn kc)
  have y0 := hy.cell 0
  have y5 := hy.cell 5
  have hkl : s.keep.length ≤ 1048576 := hok.2.2.1
  have hLF := LentFate_any (stepW w g r s (.slice ka kn kc)) (.slice ka kn kc) s.keep hi0 (by omega)
  have HH := Lib.hid hH
  have HI0 := Lib.hid hi0
  have HOK := Lib.hid hok
  have HS := Lib.hid hS
  have HX := Lib.hid hx
  have HY := Lib.hid hy
  have HLT := Lib.hid hlt
  have HKA := Lib.hid hkA
  have HJU := Lib.hid hju
  have HLF := Lib.hid hLF
  obtain ⟨do_, who, name, data, n, keep⟩ := s
  simp only at hd hkl hkn
  subst hd
  subst hkn
  unfold Sp.cells at HY y0 y5 ⊢
  simp only [List.getElem?_cons_zero, List.getElem?_cons_succ] at y0 y5
  simp only at *
  have hsz0 := HS.out.size
  have hszx := HX.out.lt
  have hszy := HY.out.lt
  unfold stepW at y0 y5
  simp only at y0 y5
  clear h hH hi hi0 hju hok hkA hS hx hy hlt hLF
  go_enter Tryz.func23, Tryz.ntmps23
  go_wp2_with (fail)
  change Calls _ _ _ (stepW w g r ⟨10, who, name, data, n, keep⟩ (.slice ka keep.length kc)) _
  clear y0 y5
  generalize stepW w g r ⟨10, who, name, data, n, keep⟩ (.slice ka keep.length kc) = W0 at *
  refine HLF.out.mono ?_
  rintro e w1 ⟨b, cap, rfl, hb, hbl, hcap, hmax, hown, hb1⟩
  have hB2 : Below w1.heap.size w1 (w1.alloc (.cells #[.slice (some ⟨b, 0, none⟩) keep.length cap] 26)) := (Below.refl _ _).alloc (Nat.le_refl _) _
  have hX2 := Blk.new w1 [.slice (some ⟨b, 0, none⟩) keep.length cap] 26
  have hB02 := hb1.trans (hB2.mono hb1.size)
  have hs1 := hb1.size
  have hP2 := (Pr2.res g r d d N).below HH.out hB02
  have hx2 := HX.out.below hB02 hszx
  have hy2 := HY.out.below hB02 hszy
  have ho2 := row_below hown hB2
  have hi2 := HI0.out.below hB02
  have hib : IntsAt (w1.alloc (.cells #[.slice (some ⟨b, 0, none⟩) keep.length cap] 26)) (.slice (some ⟨b, 0, none⟩) keep.length cap) keep := IntsAt.of_own (m := marksI 16) ho2 (by omega) hmax
  generalize hW2 : w1.alloc (.cells #[.slice (some ⟨b, 0, none⟩) keep.length cap] 26) = W2 at *
  have hbA : b ∉ A := fun hm => by have := HLT.out b hm; omega
  have hbW2 : b < W2.heap.size := Nat.lt_of_lt_of_le hbl hB2.size
  have hXW2 : w1.heap.size < W2.heap.size := hX2.lt
  have x20 := hx2.cell 0
  have y20 := hy2.cell 0
  have y24 := hy2.cell 4
  have z2 := hX2.cell 0
  simp only [List.getElem?_cons_zero, List.getElem?_cons_succ] at x20 y20 y24 z2
  have hC1 := Both.callLs (E := fun e => e = .returned (.tuple #[])) (R' := fun w A => Hd w A g (dcrash d keep) N) (Rd2.res r d N) (Hd.res _ _ _) hP2 fun A1 hA1 hsub => Crash_hd hA1 (by omega) (.slice (some ⟨b, 0, none⟩) keep.length cap) keep hib (fun j hj => ⟨hib.uses j hj, fun hm => hbA (by have e := usesOf_own hj; simp [Value.ownBlock] at e; subst e; exact hsub _ hm)⟩)
  have HC1 := Lib.hid hC1
  have HP2 := Lib.hid hP2
  have HX2 := Lib.hid hX2
  have HBX := Lib.hid hx2
  have HBY := Lib.hid hy2
  have HO2 := Lib.hid ho2
  have HI2 := Lib.hid hi2
  have HB02 := Lib.hid hB02
  clear hP2 hX2 hx2 hy2 ho2 hi2 hib hown hb1 hB2 hB02 hC1 HLF
  go_wp2_with (first | (rw [hW2]) | fail)
  refine HC1.out.mono ?_
  rintro e w3 ⟨rfl, A3, hB3, hs3⟩
  have hnA : ∀ k, k < W2.heap.size → k ∉ A → k ∉ A3 := fun k hk hn hm => by
    rcases hs3.inn k hm with h9 | h9
    · exact hn h9
    · omega
  have hxA : w.heap.size ∉ A := fun hm => by have := HLT.out _ hm; omega
  have hyA : w.heap.size + 1 ∉ A := fun hm => by have := HLT.out _ hm; omega
  have hzA : w1.heap.size ∉ A := fun hm => by have := HLT.out _ hm; omega
  have hx3 := hs3.blk HBX.out hxA
  have hy3 := hs3.blk HBY.out hyA
  have hz3 := hs3.blk HX2.out hzA
  have hi3 : IntsAt w3 (.slice ka keep.length kc) keep := HI2.out.same fun j hj => hs3.block j (HI2.out.uses j hj) (HKA.out j hj)
  have x31 := hx3.cell 1
  have y34 := hy3.cell 4
  have y35 := hy3.cell 5
  simp only [List.getElem?_cons_zero, List.getElem?_cons_succ] at x31 y34 y35
  have hC2 := Both.callRs (E := fun e => e = .returned (.tuple #[])) (S' := fun w A => Rd2 w A r (dcrash d keep) N) (Hd.res g (dcrash d keep) N) (Rd2.res _ _ _) hB3 fun A2 hA2 hsub => rCrash_rd hA2 hN (.slice ka keep.length kc) keep hi3 (by omega) (fun j hj => ⟨fun hm => hnA j (HI2.out.uses j hj) (HKA.out j hj) (hsub j hm), hi3.uses j hj⟩)
  have HC2 := Lib.hid hC2
  have HS3 := Lib.hid hs3
  have HX3 := Lib.hid hx3
  have HY3 := Lib.hid hy3
  have HZ3 := Lib.hid hz3
  have HI3 := Lib.hid hi3
  have HNA := Lib.hid hnA
  have hsz3 := hs3.size
  clear hB3 hs3 hx3 hy3 hz3 hi3 hnA hC2 HC1 x20 y20 y24 z2
  go_wp2_with (fail)
  refine HC2.out.mono ?_
  rintro e w4 ⟨rfl, A4, hB4, hs4⟩
  have hsz4 := hs4.size
  have hy4 := hs4.blk HY3.out (HNA.out _ (by omega) hyA)
  have hz4 := hs4.blk HZ3.out (HNA.out _ hXW2 hzA)
  have hbA3 : b ∉ A3 := HNA.out b hbW2 hbA
  have hbA4 : b ∉ A4 := fun hm => by
    rcases hs4.inn b hm with h9 | h9
    · exact hbA3 h9
    · omega
  have ho4 : w4.ownsRow 0 3 1 (.slice (some ⟨b, 0, none⟩) (keep.length + 16) cap) (keep.length + 16) ((keep ++ marksI 16).map (Value.int .i64)) := ownsRow_same HO2.out fun k hk => by
    have e : k = b := by simpa [Value.ownBlock, eq_comm] using hk
    subst e
    exact (hs4.block _ (by omega) hbA3).trans (HS3.out.block _ hbW2 hbA)
  have hi4 : IntsAt w4 (.slice ka keep.length kc) keep := HI3.out.same fun j hj => hs4.block j (HI3.out.uses j hj) (HNA.out j (HI2.out.uses j hj) (HKA.out j hj))
  have hKF := KeptFate_any w4 b cap (.slice ka keep.length kc) keep hcap hmax ho4 hi4 (by omega)
  have hSt : Stp A A4 w w4 := (Stp.of_below (A := A) (B := A) (HS.out.trans (HB02.out.mono HS.out.size)) fun k hk => Or.inl hk).trans (HS3.out.trans hs4)
  have z40 := hz4.cell 0
  have y45 := hy4.cell 5
  simp only [List.getElem?_cons_zero, List.getElem?_cons_succ] at z40 y45
  have HKF := Lib.hid hKF
  have HB4 := Lib.hid hB4
  have HST := Lib.hid hSt
  have HO4 := Lib.hid ho4
  have HZ4 := Lib.hid hz4
  clear hB4 hs4 hy4 hz4 ho4 hi4 hKF hSt HC2 x31 y34 y35
  go_wp2_with (fail)
  refine HKF.out.mono ?_
  rintro e w5 ⟨rfl, hb5⟩
  have hsz5 := hb5.size
  have hz5 := HZ4.out.below hb5 HZ4.out.lt
  have ho5 := row_below HO4.out hb5
  have HB5 := Lib.hid ((Pr2.res g r (dcrash d keep) (dcrash d keep) N).below HB4.out hb5)
  have HST5 := Lib.hid (HST.out.trans (Stp.of_below (A := A4) (B := A4) hb5 fun k hk => Or.inl hk))
  have HZ5 := Lib.hid hz5
  have HO5 := Lib.hid ho5
  clear hb5 hz5 ho5 HKF HB4 HST HO4 HZ4 z40 y45
  go_wp2_with (fail)
  go_loopw [17] (fun iv wr => ∃ k : Nat, ∃ xs : List Value, iv = .int .i64 k ∧ k ≤ keep.length ∧ Hid (Stp [b] [b] w5 wr) ∧ Hid (wr.ownsRow 0 3 1 (.slice (some ⟨b, 0, none⟩) (keep.length + 16) cap) (keep.length + 16) xs) ∧ Hid (∀ j x, k ≤ j → keep[j]? = some x → xs[j]? = some (.int .i64 x))) (fun iv _ => keep.length - (intOf iv).toNat)
  case atStart => exact ⟨0, _, rfl, Nat.zero_le _, Stp.refl _ _, HO5.out, fun j x _ hx => by rw [List.getElem?_map, List.getElem?_append_left ((List.getElem?_eq_some_iff.1 hx).1), hx]; rfl⟩
  case round =>
    clear HO5
    obtain ⟨k, xs, rfl, hk, hst, hor, hxs⟩ := hrel
    have hne : w1.heap.size ∉ [b] := by simp; omega
    have hzr := hst.out.blk HZ5.out hne
    have zr := hzr.cell 0
    simp only [List.getElem?_cons_zero] at zr
    by_cases hlt : k < keep.length
    · obtain ⟨x, hx⟩ : ∃ x, keep[k]? = some x := ⟨_, List.getElem?_eq_getElem hlt⟩
      have hxk := hxs.out k x (Nat.le_refl _) hx
      have ck := (hor.out.cellAt k (by omega)).trans hxk
      have fk := hor.out.frozenAt k
      have ik0 : (0 : Int) ≤ (k : Int) := by omega
      have ik1 : (k : Int) < (keep.length : Int) := by omega
      have hor2 := (hor.out.stored k (.int .i64 (wrap64 (x + 1)))).1
      have hor3 := row_below hor2 ((Below.refl _ _).drew)
      have hst2 : Stp [b] [b] w5 ((wr.setCell ⟨b, k, none⟩ (.int .i64 (wrap64 (x + 1)))).drew) := (hst.out.trans (Stp.of_set (A := [b]) (B := [b]) wr ⟨b, k, none⟩ _ (by simp) fun j hj => Or.inl hj)).trans (Stp.of_below (A := [b]) (B := [b]) ((Below.refl _ _).drew) fun j hj => Or.inl hj)
      have hxs2 : ∀ j y, k + 1 ≤ j → keep[j]? = some y → (xs.set k (.int .i64 (wrap64 (x + 1))))[j]? = some (.int .i64 y) := fun j y hj hy => by
        rw [List.getElem?_set_ne (by omega)]
        exact hxs.out j y (by omega) hy
      have HOR3 := Lib.hid hor3
      have HST2 := Lib.hid hst2
      have HXS2 := Lib.hid hxs2
      clear hx hxk hor2 hor3 hst2 hxs2 hzr hst hor hxs
      go_upto_region 34 with (fail)
      generalize hWR : wr = V at *
      refine wp_region_still_tail 10 (by kernel_rfl) (by kernel_rfl) ?_
      simp only [List.take_succ_cons, List.take_zero, List.drop_succ_cons, List.drop_zero]
      repeat still_step
      refine wpStill_nil ?_
      go_wp2
      go_roundw
      case rel => exact ⟨k + 1, _, by go_num, by omega, HST2.out, HOR3.out, HXS2.out⟩
      case measure => simp [intOf]; omega
    · have hbA4' : ∀ j ∈ A4, j ∉ [b] := fun j hj hm => by simp at hm; subst hm; exact hbA4 hj
      have hPr := (Pr2.res g r (dcrash d keep) (dcrash d keep) N).other HB5.out hst.out hbA4'
      have hfin : Stp A A4 w wr := ⟨hst.out.os.trans HST5.out.os, hst.out.tape.trans HST5.out.tape, hst.out.output.trans HST5.out.output, Nat.le_trans HST5.out.size hst.out.size, fun j hj hn => (hst.out.block j (Nat.lt_of_lt_of_le hj HST5.out.size) (by simp; omega)).trans (HST5.out.block j hj hn), HST5.out.inn⟩
      have HRES : Hid (ResTo (Pr2 g r (dcrash d keep) (dcrash d keep) N) A w wr) := ⟨A4, hPr, hfin⟩
      clear hPr hfin hbA4' hzr hst hor hxs
      go_wp2
      go_ret
      exact ⟨rfl, HRES.out⟩
end Go.Proofs.YtfgpigblnkanpaaGreatDoor
