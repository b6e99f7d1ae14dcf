/- The walk of the codec's Unpack, over this translation. -/
import Derived.Test.YtifdibkpaeocfaaGreatDoorUnpack
import Derived.Deep.RegionHeld3
import Derived.Deep.AppendLies
namespace Go.Proofs.YtifdibkpaeocfaaGreatDoor
open Go.RowKit

theorem infoPair3 : (Tryz.prog.info? 33).map (fun i => (i.zero, i.size, i.bytes)) = some (some (.agg #[.string ⟨#[]⟩, .string ⟨#[]⟩]), 2, 32) := by kernel_rfl
/-- What Unpack leaves: the answer, its list in memory of its own. -/
def UnpackPost (w : World) (r : List PairL × Nat) (e : Ending) (w' : World) : Prop :=
  ∃ v, e = .returned (.tuple #[v, errV r.2]) ∧ w'.ownsRow w.heap.size 33 2 v r.1.length (cellsP r.1) ∧ Below w.heap.size w w' ∧ (r.1 = [] → v = .slice none 0 0)
theorem UnpackPost_none {w w' : World} {no : Nat} (h : no ≠ 0) (hb : Below w.heap.size w w') : UnpackPost w ([], no) (.returned (.tuple #[.slice none 0 0, .iface 90 (.int .i64 no)])) w' :=
  ⟨.slice none 0 0, by rw [errV_some h], World.ownsRow_nil _ _ _ _, hb, fun _ => rfl⟩

set_option maxHeartbeats 2000000 in
set_option maxRecDepth 100000 in
theorem Unpack_any (l : List UInt8) (w : World) (hs : l.length ≤ 140737488351232) : Calls Tryz.prog 14 #[.string (str l)] w fun e w' => UnpackPost w (unpackL l) e w' := by
  have e1 := str_size l
  by_cases h5 : l.length < 5
  · have ha : unpackL l = ([], 2) := by rw [unpackL, if_pos h5]
    have HA := Lib.hid ha
    clear ha
    go_enter Tryz.func14, Tryz.ntmps14
    go_wp2
    go_ret2
    rw [HA.out]
    exact UnpackPost_none (by omega) (Below.refl _ _)
  · have ha : unpackL l = if l.drop (l.length - 4) ≠ crcTail (l.take (l.length - 4)) then ([], 7) else unpackBody (l.take (l.length - 4)) := by rw [unpackL, if_neg h5]
    have HA := Lib.hid ha
    clear ha
    have hx1 : (str l).extract 0 (l.length - 4) = str (l.take (l.length - 4)) := by rw [str_extract]; simp
    have hx2 : (str l).extract (l.length - 4) l.length = str (l.drop (l.length - 4)) := str_extract_to l _
    have hbl : (l.take (l.length - 4)).length = l.length - 4 := by simp
    have HBL := Lib.hid hbl
    clear hbl
    have hw0 : IntKind.i64.wrap ((l.length : Int) - 4) = (l.length : Int) - 4 := IntWalk.i64_in _ (by omega)
    have hp0 : (0 : Int) ≤ (l.length : Int) - 4 := by omega
    have hp1 : ((l.length : Int) - 4).toNat = l.length - 4 := by omega
    go_enter Tryz.func14, Tryz.ntmps14
    go_wp2
    go_quiet (fail)
    have hb0 : Below w.heap.size w (w.drewN nq) := below_drewN (Below.refl _ _) nq
    have hz0 : (w.drewN nq).heap.size = w.heap.size := rfl
    generalize w.drewN nq = w0 at *
    generalize l.take (l.length - 4) = b at *
    generalize l.drop (l.length - 4) = t at *
    have e2 := str_size b
    have e3 := str_size t
    rw [HBL.out] at e2
    go_wp2_with (fail)
    refine (tail_any (str b) _ (by omega)).mono ?_
    rintro e w1 ⟨rfl, hb1⟩
    rw [str_data]
    have hbel1 := hb0.trans (hb1.mono (by omega))
    by_cases hsum : t = crcTail b
    · have hq : ((str t).toList == (str (crcTail b)).toList) = true := by rw [hsum]; simp
      have HA2 := Lib.hid (HA.out.trans (if_neg (by simpa using hsum)))
      clear HA
      have HS := Lib.hid hsum
      clear hsum
      have hR := fun w => ReadUint_str b w (by have := HBL.out; omega)
      by_cases h0 : (readU 0 0 b).2.2 = 0
      · obtain ⟨q1, q2, q3, q4⟩ := readU_ok h0
        rw [h0, errV_none] at hR
        have hbody : unpackBody b = unpackGo (readU 0 0 b).1 0 (b.drop (readU 0 0 b).2.1) [] 0 [] := by rw [unpackBody, if_neg (by omega)]
        have HA3 := Lib.hid (HA2.out.trans hbody)
        clear HA2
        have HR := Lib.hid hR
        have hx3 : (str b).extract (readU 0 0 b).2.1 (l.length - 4) = str (b.drop (readU 0 0 b).2.1) := by rw [← HBL.out]; exact str_extract_to b _
        have hrl : (b.drop (readU 0 0 b).2.1).length ≤ l.length := by rw [List.length_drop, HBL.out]; omega
        rw [HBL.out] at q2
        clear hR h0 hbody hb0 hb1
        generalize (readU 0 0 b).2.1 = x at *
        generalize (readU 0 0 b).1 = many at *
        go_wp2_with (fail)
        refine (HR.out _).mono ?_
        rintro e w2 ⟨rfl, rfl⟩
        go_wp2
        go_loopw [0, 8, 9, 10, 11] (fun sv lv kv zv iv wr => ∃ (i size : Nat) (rest key : List UInt8) (acc : List PairL), sv = .string (str rest) ∧ kv = .string (str key) ∧ zv = .int .i64 size ∧ iv = .int .u64 i ∧ i ≤ many ∧ Hid (unpackL l = unpackGo (many - i) i rest key size acc) ∧ rest.length ≤ l.length ∧ size ≤ 268435456 ∧ key.length ≤ size ∧ acc.length ≤ size + 1 ∧ Hid (i = 0 → acc.length = 0) ∧ wr.ownsRow w.heap.size 33 2 lv acc.length (cellsP acc) ∧ Below w.heap.size w wr ∧ Hid (acc = [] → lv = .slice none 0 0)) (fun _ _ _ _ iv _ => many - (intOf iv).toNat)
        case atStart => exact ⟨0, 0, b.drop x, [], [], rfl, rfl, rfl, rfl, by omega, HA3.out, hrl, by omega, by simp, by simp, fun _ => rfl, World.ownsRow_nil _ _ _ _, hbel1, fun _ => rfl⟩
        case round =>
          clear hbel1 HA3 HR hrl hx3
          obtain ⟨i, size, rest, key, acc, rfl, rfl, rfl, rfl, hi, HA4, hrl, hsz, hkl, hacc, hi0, hown, hbel, hnil⟩ := hrel
          have e6 := str_size rest
          by_cases hlt : i < many
          · have hP := fun w => pair_any rest key (i == 0) w (by omega) (by omega)
            have hib : (((i : Nat) : Int) == 0) = (i == 0) := by
              cases hq : (i == 0) with
              | true => simpa using hq
              | false => simp at hq ⊢; omega
            have hd : many - i = (many - (i + 1)) + 1 := by omega
            have hA := HA4.out
            rw [hd] at hA
            have hbs := hbel.size
            have hz1 := Blk.new wr [strV [], strV []] 33
            by_cases h0 : (pairL rest key (i == 0)).2.2 = 0
            · obtain ⟨g1, g2, g3, g4⟩ := pairL_ok h0
              by_cases hm : 268435456 < size + ((pairL rest key (i == 0)).1.1.length + (pairL rest key (i == 0)).1.2.length)
              · rw [unpackGo_many h0 hm] at hA
                simp only [h0, errV_none, pairV] at hP
                have HP := Lib.hid hP
                have HA := Lib.hid hA
                have HD := Lib.hid hd
                clear hA hP h0 hd HA4
                generalize (pairL rest key (i == 0)).2.1 = rest2 at *
                generalize hpp : (pairL rest key (i == 0)).1 = pp at *
                obtain ⟨pk, pv⟩ := pp
                clear hpp
                have e7 := str_size pk
                have e8 := str_size pv
                go_wp2_with (fail)
                refine (HP.out _).mono ?_
                rintro e w3 ⟨rfl, hb3⟩
                have hz3 := hz1.below hb3 hz1.lt
                have c0 := hz3.cell 0
                have c1 := hz3.cell 1
                have f0 := hz3.free 0
                have f1 := hz3.free 1
                simp only [List.getElem?_cons_zero, List.getElem?_cons_succ] at c0 c1
                go_wp2
                go_ret2
                rw [HA.out]
                exact UnpackPost_none (by omega) (((hbel.alloc hbs _).trans (hb3.mono (by simp; omega))).setCell (by simpa using hbs) _ |>.setCell (by simpa using hbs) _)
              · rw [unpackGo_more h0 hm] at hA
                simp only [h0, errV_none, pairV] at hP
                have hgr := g2
                have HP := Lib.hid hP
                have HA := Lib.hid hA
                have HD := Lib.hid hd
                have HG := Lib.hid g2
                clear hA hP h0 hd HA4 hgr g2
                generalize (pairL rest key (i == 0)).2.1 = rest2 at *
                generalize hpp : (pairL rest key (i == 0)).1 = pp at *
                obtain ⟨pk, pv⟩ := pp
                have HPP := Lib.hid hpp
                clear hpp
                have e7 := str_size pk
                have e8 := str_size pv
                go_wp2_with (fail)
                refine (HP.out _).mono ?_
                rintro e w3 ⟨rfl, hb3⟩
                have hz3 := hz1.below hb3 hz1.lt
                have hown3 := keepOwns (hown.alloc (.cells #[strV [], strV []] 33)) hb3
                have c0 := hz3.cell 0
                have c1 := hz3.cell 1
                have f0 := hz3.free 0
                have f1 := hz3.free 1
                simp only [List.getElem?_cons_zero, List.getElem?_cons_succ] at c0 c1
                have hfar : ∀ k, Value.ownBlock u8 = some k → k ≠ wr.heap.size := fun k hk => by have := (hown.lt k hk).2; omega
                have hne : Value.ownBlock u8 ≠ some wr.heap.size := fun e => hfar _ e rfl
                have hz4 := (hz3.set 0 (strV pk)).set 1 (strV pv)
                have hown4 := ownsRow_setCell_other (ownsRow_setCell_other hown3 (a := ⟨wr.heap.size, 0, none⟩) hne (strV pk)) (a := ⟨wr.heap.size, 1, none⟩) hne (strV pv)
                have hbel4 : Below w.heap.size w ((w3.setCell ⟨wr.heap.size, 0, none⟩ (strV pk)).setCell ⟨wr.heap.size, 1, none⟩ (strV pv)) := (((hbel.alloc hbs _).trans (hb3.mono (by simp; omega))).setCell (by simpa using hbs) _ |>.setCell (by simpa using hbs) _)
                simp only [List.set_cons_zero, List.set_cons_succ] at hz4
                go_wp2
                generalize ((w3.setCell ⟨wr.heap.size, 0, none⟩ (strV pk)).setCell ⟨wr.heap.size, 1, none⟩ (strV pv)) = w4 at *
                have hlt4 := hz4.lt
                have hbs4 := hbel4.size
                have d0 := hz4.cell 0
                have d1 := hz4.cell 1
                simp only [List.getElem?_cons_zero, List.getElem?_cons_succ] at d0 d1
                clear hz1 hz3 hown3 c0 c1 f0 f1 hb3 hown hbel HP
                obtain ⟨i0, hii, hiz0, hiz1, hiz2⟩ := info_parts infoPair3
                go_region_held3 (fun w' => w'.cell? ⟨wr.heap.size, 0, none⟩ = some (strV pk) ∧ w'.cell? ⟨wr.heap.size, 1, none⟩ = some (strV pv))
                  (first
                    | go_keep
                    | (go_split_ands
                       refine ⟨?_, ?_⟩
                       · (rw [hgrow.cell_far _ (by simp; omega) (Ne.symm hne)]; assumption)
                       · (rw [hgrow.cell_far _ (by simp; omega) (Ne.symm hne)]; assumption)))
                  ((refine step_append_lies _ (by rfl) _ _ _ (by rfl) w.heap.size 33 i0 _ 2 32 Tryz.underlying29 hii hiz0 hiz1 hiz2 rfl (by omega) u8 acc.length (cellsP acc) (by rfl) ((hown4.alloc _).drew)
                      ⟨w4.heap.size, 0, none⟩ 1 1 [strV pk, strV pv] (by rfl) (by rfl) (World.news_of_block (cs := #[strV pk, strV pv]) (t := 33) (fr := (0, 0)) (heap_alloc_new w4 _)) (by simp [Value.oneCell'])
                      (by omega) (by unfold maxLen; omega) (by omega) (by simp; omega) (w4.heap.size + 1) (by simp) ?_; intro gg cap w5 hown5 hgrow hat hlt5))
                go_wp2
                go_roundw
                case rel => exact ⟨i + 1, size + (pk.length + pv.length), rest2, pk, acc ++ [(pk, pv)], rfl, rfl, by go_num, by go_num, by omega, HA.out, by omega, by omega, by omega, by
                  rw [List.length_append]
                  show acc.length + 1 ≤ _
                  rcases Nat.eq_zero_or_pos i with e | e
                  · have := hi0.out e; omega
                  · have := HG.out (by simp; omega); omega, fun e => by omega, by rw [List.length_append, cellsP_snoc]; exact hown5, (((hbel4.alloc hbs4 _).drew).grown hgrow (by simp; omega) (fun k hk => (hown4.lt k hk).1)), fun e => by simp at e⟩
                case measure => simp [intOf]; omega
            · rw [unpackGo_err h0] at hA
              simp only [errV_some h0, pairV] at hP
              have HP := Lib.hid hP
              have HA := Lib.hid hA
              have HD := Lib.hid hd
              have H0 := Lib.hid h0
              clear hA hP h0 hd HA4
              generalize (pairL rest key (i == 0)).2.2 = no at *
              generalize (pairL rest key (i == 0)).2.1 = rest2 at *
              generalize hpp : (pairL rest key (i == 0)).1 = pp at *
              obtain ⟨pk, pv⟩ := pp
              clear hpp
              go_wp2_with (fail)
              refine (HP.out _).mono ?_
              rintro e w3 ⟨rfl, hb3⟩
              have hz3 := hz1.below hb3 hz1.lt
              have c0 := hz3.cell 0
              have c1 := hz3.cell 1
              have f0 := hz3.free 0
              have f1 := hz3.free 1
              simp only [List.getElem?_cons_zero, List.getElem?_cons_succ] at c0 c1
              go_wp2
              go_ret2
              rw [HA.out]
              exact UnpackPost_none H0.out (((hbel.alloc hbs _).trans (hb3.mono (by simp; omega))).setCell (by simpa using hbs) _ |>.setCell (by simpa using hbs) _)
          · have hd : many - i = 0 := by omega
            have hA := HA4.out
            rw [hd] at hA
            by_cases hr : rest = []
            · subst hr
              rw [unpackGo_end rfl] at hA
              have HA := Lib.hid hA
              have hq : (str ([] : List UInt8)).toList.isEmpty = true := by rw [toList_str]; rfl
              clear hA hd HA4 e6
              go_wp2
              go_ret2
              rw [HA.out]
              exact ⟨_, rfl, hown, hbel, hnil.out⟩
            · rw [unpackGo_long hr] at hA
              have HA := Lib.hid hA
              have hq : (str rest).toList.isEmpty = false := by rw [toList_str]; cases rest <;> simp at hr ⊢
              clear hA hd HA4
              have HR := Lib.hid hr
              clear hr
              go_wp2
              go_ret2
              rw [HA.out]
              exact UnpackPost_none (by omega) hbel
      · obtain ⟨q1, q2, q3⟩ := readU_bad0 b 0 0 h0
        have hbody : unpackBody b = ([], (readU 0 0 b).2.2) := by rw [unpackBody, if_pos h0]
        rw [errV_some h0, q1, q2] at hR
        have HA3 := Lib.hid (HA2.out.trans hbody)
        clear HA2
        have HR := Lib.hid hR
        have H0 := Lib.hid h0
        clear hR q1 q2 h0 q3 hbody
        generalize (readU 0 0 b).2.2 = no at *
        go_wp2_with (fail)
        refine (HR.out _).mono ?_
        rintro e w2 ⟨rfl, rfl⟩
        go_wp2
        go_ret2
        rw [HA3.out]
        exact UnpackPost_none H0.out hbel1
    · have hq : ((str t).toList == (str (crcTail b)).toList) = false := by
        rw [toList_str, toList_str]; simpa using hsum
      have HA2 := Lib.hid (HA.out.trans (if_pos hsum))
      clear HA
      have HS := Lib.hid hsum
      clear hsum
      go_wp2
      go_ret2
      rw [HA2.out]
      exact UnpackPost_none (by omega) hbel1
end Go.Proofs.YtifdibkpaeocfaaGreatDoor
