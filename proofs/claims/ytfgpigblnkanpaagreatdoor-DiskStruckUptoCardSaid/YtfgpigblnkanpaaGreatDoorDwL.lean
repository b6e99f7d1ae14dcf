/- The walks of HasPrefix and of a disk's List. -/
import Derived.Test.YtfgpigblnkanpaaGreatDoorDwQ
namespace Go.Proofs.YtfgpigblnkanpaaGreatDoor
set_option linter.unusedVariables false
open Go.RowKit Go.Maps Go.Shelf

theorem prefix_take (p a : List UInt8) : p.isPrefixOf a = decide (p.length ≤ a.length ∧ a.take p.length = p) := by
  rw [Bool.eq_iff_iff, List.isPrefixOf_iff_prefix, decide_eq_true_iff]
  constructor
  · intro h
    exact ⟨h.length_le, (List.prefix_iff_eq_take.1 h).symm⟩
  · intro h
    rw [← h.2]; exact List.take_prefix _ _
set_option maxHeartbeats 1000000 in
set_option maxRecDepth 100000 in
theorem HasPrefix_any (a p : List UInt8) (w : World) (_ha : a.length ≤ 9223372036854775807) (_hp : p.length ≤ 9223372036854775807) : Calls Tryz.prog 60 #[strV a, strV p] w fun e w' => e = .returned (.bool (p.isPrefixOf a)) ∧ w = w' := by
  have h1 := str_size a
  have h2 := str_size p
  rw [prefix_take]
  by_cases hl : p.length ≤ a.length
  · have hs := slice_pre a p.length hl
    have ht1 := toList_str (a.take p.length)
    have ht2 := toList_str p
    by_cases he : a.take p.length = p
    · rw [decide_eq_true (⟨hl, he⟩ : p.length ≤ a.length ∧ a.take p.length = p)]
      rw [he] at hs
      have HE := Lib.hid he
      clear he ht1
      go_enter Tryz.func60, Tryz.ntmps60
      go_wp2
      go_ret
      exact ⟨rfl, rfl⟩
    · rw [decide_eq_false (fun h => he h.2 : ¬ (p.length ≤ a.length ∧ a.take p.length = p))]
      have hq : ((str (a.take p.length)).toList == (str p).toList) = false := by rw [ht1, ht2]; simpa using he
      have HQ := Lib.hid hq
      have HE := Lib.hid he
      clear he ht1 ht2 hq
      go_enter Tryz.func60, Tryz.ntmps60
      go_wp2
      go_ret
      refine ⟨?_, rfl⟩
      show Ending.returned (.bool ((str (a.take p.length)).toList == (str p).toList)) = _
      rw [HQ.out]
  · rw [decide_eq_false (fun h => hl h.1 : ¬ (p.length ≤ a.length ∧ a.take p.length = p))]
    go_enter Tryz.func60, Tryz.ntmps60
    go_wp2
    go_ret
    exact ⟨rfl, rfl⟩

theorem row_down {w : World} {B B' : Nat} {e : TypeId} {size : Nat} {v : Value} {n : Nat} {xs : List Value} (h : w.ownsRow B e size v n xs) (hB : B' ≤ B) : w.ownsRow B' e size v n xs := by
  refine ⟨h.1, ?_⟩
  rcases h.2 with h2 | ⟨g, cap, cur, hv, hb, rest⟩
  · exact Or.inl h2
  · exact Or.inr ⟨g, cap, cur, hv, Nat.le_trans hB hb, rest⟩
theorem infoStr : (Tryz.prog.info? 9).map (fun i => (i.zero, i.size, i.bytes)) = some (some (strV []), 1, 16) := by kernel_rfl
def ListPost (d : Dk) (head : List UInt8) (w : World) (e : Ending) (w' : World) : Prop :=
  ∃ v, e = .returned (.tuple #[v, errV (if d.off = true then 20 else 0)]) ∧ w'.ownsRow w.heap.size 9 1 v (dlist d head).length ((dlist d head).map strV) ∧ (dlist d head = [] → v = .slice none 0 0) ∧ Below w.heap.size w w'
set_option maxHeartbeats 2000000 in
set_option maxRecDepth 100000 in
theorem dkList_any (w : World) (g : Nat) (L : Lay) (d : Dk) (N : Nat) (head : List UInt8) (hh : head.length ≤ 9223372036854775807) (h : DiskIn w g L d N) (hk : DkOk d) (hb : DkB d N) (hN : N < 4294967296) :
    Calls Tryz.prog 14 #[.pointer (some ⟨g, 0, none⟩), strV head] w (ListPost d head w) := by
  obtain ⟨c0, c1, c2, c3, c4, c5, c6⟩ := h.cells
  have hgl := h.blk.lt
  by_cases hoff : d.off = true
  · rw [hoff] at c0
    have e0 : dlist d head = [] := by unfold dlist; rw [if_pos hoff]
    have HO := Lib.hid hoff
    have HE := Lib.hid e0
    clear hoff e0 h hk hb
    go_enter Tryz.func14, Tryz.ntmps14
    go_wp2
    go_ret2
    refine ⟨.slice none 0 0, by rw [if_pos HO.out]; rfl, ?_, fun _ => rfl, Below.refl _ _⟩
    rw [HE.out]
    exact World.ownsRow_nil _ _ _ _
  · have hoff' : d.off = false := by simpa using hoff
    rw [hoff'] at c0
    have e0 : dlist d head = (tnames d.now).filter fun n => head.isPrefixOf n := by unfold dlist; rw [if_neg hoff]; rfl
    have hK := mapsKeys_any (some L.bn) w
    have hS := h.now.sorted hk.now hN
    unfold SortedPost at hS
    have htl : (tnames d.now).length < 4294967296 := by unfold tnames; rw [List.length_map]; have := hb.now; omega
    have hnl := h.now.nameLen
    obtain ⟨i0, hi, hz0, hz1, hz2⟩ := info_parts infoStr
    have HO := Lib.hid hoff
    have HE := Lib.hid e0
    have HNL := Lib.hid hnl
    clear hoff hoff' e0 h hk hb hnl
    generalize tnames d.now = ns at *
    go_enter Tryz.func14, Tryz.ntmps14
    go_wp2_with (first
      | (go_at_call 59; refine hK.mono ?_; rintro e w2 ⟨rfl, rfl⟩)
      | (go_at_call 58; refine hS.mono ?_; rintro e w3 ⟨v, rfl, hr, hnil, hb⟩; obtain ⟨sa, sc, rfl, hsn⟩ := row_open hr; have HRN := Lib.hid hr; have HSN := Lib.hid hsn; have HB3 := Lib.hid hb; clear hr hnil hsn hb))
    obtain ⟨flt, hflt⟩ : ∃ flt : Nat → List Nm, Hid (∀ k, flt k = (ns.take k).filter fun n => head.isPrefixOf n) := ⟨_, fun _ => rfl⟩
    have hz3 : w.heap.size ≤ w3.heap.size := by have := HB3.out.size; simp at this; omega
    have hBase : Below w.heap.size w w3 := ((Below.refl _ w).alloc (Nat.le_refl _) _).trans (HB3.out.mono (by simp))
    have HBase := Lib.hid hBase
    clear hBase
    go_loopw [6, 21] (fun lv jv wr => ∃ k : Nat, jv = .int .i64 k ∧ k ≤ ns.length ∧ Hid (flt k = [] → lv = .slice none 0 0) ∧ wr.ownsRow w3.heap.size 9 1 lv (flt k).length ((flt k).map strV) ∧ Below w3.heap.size w3 wr) (fun _ jv _ => ns.length - (intOf jv).toNat)
    case atStart => exact ⟨0, rfl, Nat.zero_le _, fun _ => rfl, by rw [hflt.out]; exact World.ownsRow_nil _ _ _ _, Below.refl _ _⟩
    case round =>
      obtain ⟨k, rfl, hkn, hnil, hown, hbel⟩ := hrel
      have hzr := hbel.size
      by_cases hlt : k < ns.length
      · obtain ⟨nm, hx⟩ : ∃ x, ns[k]? = some x := ⟨_, List.getElem?_eq_getElem hlt⟩
        obtain ⟨gs, rfl, hsc, hgs⟩ := HSN.out k (strV nm) (by rw [List.getElem?_map, hx]; rfl)
        have hgb := HRN.out.lt gs hgs
        have hnc := (hbel.cell (p := ⟨gs, k, none⟩) hgb.2).trans hsc
        have hnml : nm.length ≤ 9223372036854775807 := by have := HNL.out nm (List.mem_of_getElem? hx); unfold maxLen at this; exact this
        have hP := HasPrefix_any nm head wr hnml hh
        have htk : ns.take (k + 1) = ns.take k ++ [nm] := by
          rw [List.take_add_one, hx]; rfl
        have hlen : (flt k).length ≤ k := by rw [hflt.out]; exact Nat.le_trans (List.length_filter_le _ _) (List.length_take_le _ _)
        have HTK := Lib.hid htk
        have HX := Lib.hid hx
        have HGS := Lib.hid hgs
        clear htk hx hsc hgs hgb
        cases hpre : head.isPrefixOf nm with
        | true =>
          rw [hpre] at hP
          have hf2 : flt (k + 1) = flt k ++ [nm] := by rw [hflt.out, hflt.out, HTK.out, List.filter_append]; simp [hpre]
          have HF2 := Lib.hid hf2
          have HPRE := Lib.hid hpre
          clear hf2 hpre
          go_wp2_with (first
            | (go_at_call 60; refine hP.mono ?_; rintro e w4 ⟨rfl, rfl⟩)
            | (at_builtin; refine wpList_append_own _ rfl (.tmp 28) (.tmp 30) 37 rfl w3.heap.size 9 i0 (strV []) 1 16 Tryz.underlying37 hi hz0 hz1 hz2 rfl (by decide) _ _ _ rfl (hown.alloc _) ⟨wr.heap.size, 0, none⟩ 1 1 [strV nm] rfl rfl ?c1 ?c2 ?c3 ?c4 ?c5 ?_))
          case c1 => exact World.news_of_block (cs := #[strV nm]) (t := 9) (fr := (0, 0)) (heap_alloc_new wr _)
          case c2 => intro u hu; simp at hu; subst hu; rfl
          case c3 => unfold maxLen; omega
          case c4 => omega
          case c5 => simp; omega
          intro v' w5 hown5 hgrow5 hv5
          have hbel5 : Below w3.heap.size w3 w5 := (hbel.alloc hzr _).grown hgrow5 (by simp; omega) (fun j hj => (hown.lt j hj).1)
          have HO5 := Lib.hid hown5
          have HV5 := Lib.hid hv5
          clear hown5 hgrow5 hv5 hown
          go_wp2
          go_roundw
          case rel => exact ⟨k + 1, by go_num, by omega, (by intro h0; rw [HF2.out] at h0; simp at h0), by rw [HF2.out, List.length_append, List.map_append]; exact HO5.out, hbel5⟩
          case measure => simp [intOf]; omega
        | false =>
          rw [hpre] at hP
          have hf2 : flt (k + 1) = flt k := by rw [hflt.out, hflt.out, HTK.out, List.filter_append]; simp [hpre]
          have HF2 := Lib.hid hf2
          have HPRE := Lib.hid hpre
          clear hf2 hpre
          go_wp2_with (first
            | (go_at_call 60; refine hP.mono ?_; rintro e w4 ⟨rfl, rfl⟩))
          go_roundw
          case rel => exact ⟨k + 1, by go_num, by omega, by rw [HF2.out]; exact hnil, by rw [HF2.out]; exact hown, hbel⟩
          case measure => simp [intOf]; omega
      · have hk2 : ns.take k = ns := List.take_of_length_le (by omega)
        have hfin : flt k = dlist d head := by rw [hflt.out, hk2, HE.out]
        have HFIN := Lib.hid hfin
        have HOWN := Lib.hid hown
        clear hk2 hfin hown
        go_wp2_with (fail)
        go_ret2
        refine ⟨u6, by rw [if_neg HO.out]; rfl, ?_, ?_, HBase.out.trans (hbel.mono hz3)⟩
        · rw [← HFIN.out]
          exact row_down HOWN.out hz3
        · rw [← HFIN.out]
          exact hnil.out
end Go.Proofs.YtfgpigblnkanpaaGreatDoor
