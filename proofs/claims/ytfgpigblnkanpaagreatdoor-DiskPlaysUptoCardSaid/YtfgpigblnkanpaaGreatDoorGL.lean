/- LentFate answers a fate whose numbers lie in a row of their own, marks behind them; KeptFate sees that they are as they were. LentFate, KeptFate. -/
import Derived.Test.YtfgpigblnkanpaaGreatDoorGI
namespace Go.Proofs.YtfgpigblnkanpaaGreatDoor
open Go.RowKit Go.Maps Go.Shelf
set_option linter.unusedVariables false
set_option linter.unusedSimpArgs false

def markI (i : Int) : Int := -91000000 - i
def marksI (n : Nat) : List Int := (List.range n).map fun i : Nat => markI (i : Int)
theorem marksI_len (n : Nat) : (marksI n).length = n := by simp [marksI]
theorem marksI_succ (n : Nat) : marksI (n + 1) = marksI n ++ [markI n] := by simp [marksI, List.range_succ]
set_option maxRecDepth 100000 in
theorem markInts_any (i : Int) (w : World) (h : -4611686018427387904 ≤ i ∧ i ≤ 4611686018427387904) : Calls Tryz.prog 178 #[.int .i64 90, .int .i64 i] w fun e w' => e = .returned (.int .i64 (markI i)) ∧ w = w' := by
  have e1 : IntKind.i64.wrap ((-1000000 : Int) * 91) = -91000000 := by decide
  have e2 : IntKind.i64.wrap (-91000000 - i) = markI i := IntWalk.i64_in _ (by omega)
  go_enter Tryz.func178, Tryz.ntmps178
  go_wp2
  go_ret
  exact ⟨rfl, rfl⟩
set_option maxHeartbeats 4000000 in
set_option maxRecDepth 100000 in
theorem FullInts_any (w : World) (v : Value) (l : List Int) (h : IntsAt w v l) (hl : l.length ≤ 4294967296) : Calls Tryz.prog 152 #[v] w fun e w' => ∃ v', e = .returned v' ∧ w'.ownsRow w.heap.size 3 1 v' (l.length + 16) ((l ++ marksI 16).map (Value.int .i64)) ∧ Below w.heap.size w w' := by
  obtain ⟨i0, hi, hz0, hz1, hz2⟩ := info_parts infoIntR
  obtain ⟨ka, kc, rfl⟩ := h.len
  have HI := Lib.hid h
  clear h
  go_enter Tryz.func152, Tryz.ntmps152
  go_wp2_with (fail)
  go_loopw [3, 4] (fun u iv wr => ∃ k : Nat, iv = .int .i64 k ∧ k ≤ l.length ∧ wr.ownsRow w.heap.size 3 1 u k ((l.take k).map (Value.int .i64)) ∧ Below w.heap.size w wr) (fun _ iv _ => l.length - (intOf iv).toNat)
  case atStart => exact ⟨0, rfl, Nat.zero_le _, World.ownsRow_nil _ _ _ _, Below.refl _ _⟩
  case round =>
    obtain ⟨k, rfl, hk, hown, hbel⟩ := hrel
    have hsz := hbel.size
    by_cases hlt : k < l.length
    · obtain ⟨x, hx⟩ : ∃ x, l[k]? = some x := ⟨_, List.getElem?_eq_getElem hlt⟩
      obtain ⟨b, off, cap, hv, hcw⟩ := HI.out.at hx
      simp only [Value.slice.injEq] at hv
      obtain ⟨rfl, -, rfl⟩ := hv
      have hcr := (hbel.cell (World.block_lt_of_cell? w _ hcw)).trans hcw
      have ht : (l.take (k + 1)).map (Value.int .i64) = (l.take k).map (Value.int .i64) ++ [.int .i64 x] := by rw [List.take_add_one, hx]; simp
      have HT := Lib.hid ht
      have ik0 : (0 : Int) ≤ (k : Int) := by omega
      have ik1 : (k : Int) < (l.length : Int) := by omega
      have HB := Lib.hid hbel
      have HLT := Lib.hid hown.lt
      clear hx hcw ht hbel
      generalize (l.take k).map (Value.int .i64) = xs at *
      go_wp2_with (at_builtin; refine wpList_append_own _ rfl _ _ 24 rfl w.heap.size 3 i0 (.int .i64 0) 1 8 Tryz.underlying24 hi hz0 hz1 hz2 rfl (by decide) _ k xs rfl (hown.alloc _) ⟨wr.heap.size, 0, none⟩ 1 1 [.int .i64 x] rfl rfl ?c1 ?c2 ?c3 ?c4 ?c5 ?_)
      case c1 => exact World.news_of_block (cs := #[.int .i64 x]) (t := 3) (fr := (0, 0)) (heap_alloc_new wr _)
      case c2 => intro u hu; simp at hu; subst hu; rfl
      case c3 => unfold maxLen; omega
      case c4 => omega
      case c5 => simp; omega
      intro v' w5 hown5 hgrow5 hv5
      have hbel5 : Below w.heap.size w w5 := (HB.out.alloc hsz _).grown hgrow5 (by simp; omega) (fun j hj => (HLT.out j hj).1)
      rw [← HT.out] at hown5
      have HO5 := Lib.hid hown5
      have HB5 := Lib.hid hbel5
      clear hown5 hgrow5 hv5 hown hbel5
      go_wp2
      go_roundw
      case rel => exact ⟨k + 1, by go_num, by omega, HO5.out, HB5.out⟩
      case measure => simp [intOf]; omega
    · obtain rfl : k = l.length := by omega
      rw [List.take_length] at hown
      have HO := Lib.hid hown
      have HB := Lib.hid hbel
      clear hown hbel HI
      go_wp2_with (fail)
      go_loopw [3, 5] (fun u iv wr => ∃ k : Nat, iv = .int .i64 k ∧ k ≤ 16 ∧ wr.ownsRow w.heap.size 3 1 u (l.length + k) ((l ++ marksI k).map (Value.int .i64)) ∧ Below w.heap.size w wr) (fun _ iv _ => 16 - (intOf iv).toNat)
      case atStart => exact ⟨0, rfl, Nat.zero_le _, by simpa [marksI] using HO.out, HB.out⟩
      case round =>
        clear HO HB
        obtain ⟨k, rfl, hk, hown, hbel⟩ := hrel
        have hsz := hbel.size
        by_cases hlt : k < 16
        · have ht : (l ++ marksI (k + 1)).map (Value.int .i64) = (l ++ marksI k).map (Value.int .i64) ++ [.int .i64 (markI k)] := by rw [marksI_succ, ← List.append_assoc, List.map_append]; rfl
          have HT := Lib.hid ht
          have HB := Lib.hid hbel
          have HLT := Lib.hid hown.lt
          have HMK := Lib.hid (markInts_any (k : Int) wr (by omega))
          clear ht hbel
          generalize (l ++ marksI k).map (Value.int .i64) = xs at *
          generalize markI (k : Int) = mk at *
          go_wp2_with (fail)
          refine HMK.out.mono ?_
          rintro e w3 ⟨rfl, rfl⟩
          go_wp2_with (at_builtin; refine wpList_append_own _ rfl _ _ 24 rfl w.heap.size 3 i0 (.int .i64 0) 1 8 Tryz.underlying24 hi hz0 hz1 hz2 rfl (by decide) _ (l.length + k) xs rfl (hown.alloc _) ⟨wr.heap.size, 0, none⟩ 1 1 [.int .i64 mk] rfl rfl ?c1 ?c2 ?c3 ?c4 ?c5 ?_)
          case c1 => exact World.news_of_block (cs := #[.int .i64 mk]) (t := 3) (fr := (0, 0)) (heap_alloc_new wr _)
          case c2 => intro u hu; simp at hu; subst hu; rfl
          case c3 => unfold maxLen; omega
          case c4 => omega
          case c5 => simp; omega
          intro v' w5 hown5 hgrow5 hv5
          have hbel5 : Below w.heap.size w w5 := (HB.out.alloc hsz _).grown hgrow5 (by simp; omega) (fun j hj => (HLT.out j hj).1)
          rw [← HT.out, Nat.add_assoc] at hown5
          have HO5 := Lib.hid hown5
          have HB5 := Lib.hid hbel5
          clear hown5 hgrow5 hv5 hown hbel5
          go_wp2
          go_roundw
          case rel => exact ⟨k + 1, by go_num, by omega, HO5.out, HB5.out⟩
          case measure => simp [intOf]; omega
        · obtain rfl : k = 16 := by omega
          have HO := Lib.hid hown
          have HB := Lib.hid hbel
          clear hown hbel
          go_wp2
          go_ret
          exact ⟨_, rfl, HO.out, HB.out⟩
theorem IntsAt.of_own {w : World} {B b n cap : Nat} {l m : List Int} (h : w.ownsRow B 3 1 (.slice (some ⟨b, 0, none⟩) n cap) n ((l ++ m).map (Value.int .i64))) (hc : l.length ≤ cap) (hm : cap ≤ maxLen) : IntsAt w (.slice (some ⟨b, 0, none⟩) l.length cap) l := by
  refine Or.inr ⟨b, 0, cap, rfl, hc, by unfold maxLen at hm; omega, fun k x hx => ?_⟩
  have hk := (List.getElem?_eq_some_iff.1 hx).1
  have hn := h.1
  simp only [List.length_map, List.length_append, Nat.mul_one] at hn
  have c := h.cellAt k (by omega)
  rw [Nat.zero_add, c, List.getElem?_map, List.getElem?_append_left hk, hx]
  rfl
set_option maxRecDepth 100000 in
theorem LentInts_any (w : World) (v : Value) (l : List Int) (h : IntsAt w v l) (hl : l.length ≤ 4294967296) : Calls Tryz.prog 125 #[v] w fun e w' => ∃ b cap, e = .returned (.slice (some ⟨b, 0, none⟩) l.length cap) ∧ w.heap.size ≤ b ∧ b < w'.heap.size ∧ l.length + 16 ≤ cap ∧ cap ≤ maxLen ∧ w'.ownsRow 0 3 1 (.slice (some ⟨b, 0, none⟩) (l.length + 16) cap) (l.length + 16) ((l ++ marksI 16).map (Value.int .i64)) ∧ Below w.heap.size w w' := by
  obtain ⟨ka, kc, rfl⟩ := h.len
  have HF := Lib.hid (FullInts_any w _ l h hl)
  clear h
  go_enter Tryz.func125, Tryz.ntmps125
  go_wp2_with (fail)
  refine HF.out.mono ?_
  rintro e w1 ⟨u, rfl, hown, hb1⟩
  have hlt := hown.lt
  rcases hown.2 with ⟨_, h0⟩ | ⟨g, cap2, cur, hv, hge, hgg, hcap, hmax, _, _⟩
  · omega
  · subst hv
    have HO := Lib.hid (row_base hown)
    have HB := Lib.hid hb1
    have HL := Lib.hid (hlt g rfl)
    have HM := Lib.hid hmax
    clear hown hb1 hlt hgg hmax HF
    have h1 : (0 : Int) ≤ (l.length : Int) := by omega
    have h2 : (l.length : Int) ≤ cap2 := by omega
    have h3 : ((l.length : Int)).toNat = l.length := by omega
    go_wp2
    go_ret
    exact ⟨g, cap2, rfl, HL.out.1, HL.out.2, hcap, HM.out, HO.out, HB.out⟩
set_option maxHeartbeats 2000000 in
set_option maxRecDepth 100000 in
theorem KeptFullInts_any (w : World) (u v : Value) (l : List Int) (hu : IntsAt w u (l ++ marksI 16)) (hv : IntsAt w v l) (hl : l.length ≤ 4294967296) : Calls Tryz.prog 153 #[u, v] w fun e w' => e = .returned (.bool true) ∧ w = w' := by
  obtain ⟨ua, uc, rfl⟩ := hu.len
  obtain ⟨va, vc, rfl⟩ := hv.len
  have hlen : (l ++ marksI 16).length = l.length + 16 := by rw [List.length_append, marksI_len]
  have HU := Lib.hid hu
  have HV := Lib.hid hv
  have HLEN := Lib.hid hlen
  rw [hlen]
  clear hu hv hlen
  go_enter Tryz.func153, Tryz.ntmps153
  go_wp2_with (fail)
  go_loopw [5] (fun iv wr => ∃ k : Nat, iv = .int .i64 k ∧ k ≤ l.length + 16 ∧ wr = w) (fun iv _ => l.length + 16 - (intOf iv).toNat)
  case atStart => exact ⟨0, rfl, Nat.zero_le _, rfl⟩
  case round =>
    obtain ⟨k, rfl, hk, rfl⟩ := hrel
    by_cases hlt : k < l.length + 16
    · obtain ⟨p, hp⟩ : ∃ p, (l ++ marksI 16)[k]? = some p := ⟨_, List.getElem?_eq_getElem (by rw [HLEN.out]; exact hlt)⟩
      obtain ⟨b, off, cap, hs, hc⟩ := HU.out.at hp
      rw [HLEN.out] at hs
      simp only [Value.slice.injEq] at hs
      obtain ⟨rfl, -, rfl⟩ := hs
      have hw0 : IntKind.i64.wrap ((k : Int) - l.length) = (k : Int) - l.length := IntWalk.i64_in _ (by omega)
      have HMK := Lib.hid (markInts_any ((k : Int) - l.length) wr (by omega))
      have ik0 : (0 : Int) ≤ (k : Int) := by omega
      have ik1 : (k : Int) < (l.length : Int) + 16 := by omega
      by_cases hkl : k < l.length
      · have hq : l[k]? = some p := by rw [List.getElem?_append_left hkl] at hp; exact hp
        obtain ⟨b', off', cap', hs', hc'⟩ := HV.out.at hq
        simp only [Value.slice.injEq] at hs'
        obtain ⟨rfl, -, rfl⟩ := hs'
        have ik2 : (k : Int) < (l.length : Int) := by omega
        have hpp : ((p : Int) != p) = false := by simp
        clear hp hq
        generalize markI ((k : Int) - l.length) = mk at *
        go_wp2_with (fail)
        refine HMK.out.mono ?_
        rintro e w3 ⟨rfl, rfl⟩
        go_wp2
        go_roundw
        case rel => exact ⟨k + 1, by go_num, by omega, by first | rfl | trivial⟩
        case measure => simp [intOf]; omega
      · have hpm : p = markI ((k : Int) - l.length) := by
          rw [List.getElem?_append_right (by omega)] at hp
          have hi2 : k - l.length < 16 := by omega
          simp only [marksI, List.getElem?_map, List.getElem?_range hi2, Option.map_some, Option.some.injEq] at hp
          rw [← hp]
          congr 1
          omega
        subst hpm
        have ik2 : ¬ (k : Int) < (l.length : Int) := by omega
        clear hp
        generalize markI ((k : Int) - l.length) = mk at *
        have hpp : ((mk : Int) != mk) = false := by simp
        go_wp2_with (fail)
        refine HMK.out.mono ?_
        rintro e w3 ⟨rfl, rfl⟩
        go_wp2
        go_roundw
        case rel => exact ⟨k + 1, by go_num, by omega, by first | rfl | trivial⟩
        case measure => simp [intOf]; omega
    · go_wp2
      go_ret
      exact ⟨rfl, rfl⟩
set_option maxRecDepth 100000 in
theorem KeptInts_any (w : World) (b cap : Nat) (v : Value) (l : List Int) (hc : l.length + 16 ≤ cap) (hm : cap ≤ maxLen) (ho : w.ownsRow 0 3 1 (.slice (some ⟨b, 0, none⟩) (l.length + 16) cap) (l.length + 16) ((l ++ marksI 16).map (Value.int .i64))) (hv : IntsAt w v l) (hl : l.length ≤ 4294967296) : Calls Tryz.prog 126 #[.slice (some ⟨b, 0, none⟩) l.length cap, v] w fun e w' => e = .returned (.bool true) ∧ w = w' := by
  have hu : IntsAt w (.slice (some ⟨b, 0, none⟩) (l ++ marksI 16).length cap) (l ++ marksI 16) := IntsAt.of_own (B := 0) (n := l.length + 16) (m := []) (by rw [List.append_nil]; exact ho) (by rw [List.length_append, marksI_len]; exact hc) hm
  have hk := KeptFullInts_any w _ v l hu hv hl
  rw [List.length_append, marksI_len] at hk
  have HK := Lib.hid hk
  obtain ⟨va, vc, rfl⟩ := hv.len
  clear hu hk hv ho
  have h1 : (0 : Int) ≤ (l.length : Int) + 16 := by omega
  have h2 : (l.length : Int) + 16 ≤ cap := by omega
  have h3 : ((l.length : Int) + 16).toNat = l.length + 16 := by omega
  go_enter Tryz.func126, Tryz.ntmps126
  go_wp2_with (fail)
  refine HK.out.mono ?_
  rintro e w1 ⟨rfl, rfl⟩
  go_wp2
  go_ret
  exact ⟨rfl, rfl⟩
end Go.Proofs.YtfgpigblnkanpaaGreatDoor

namespace Go.Proofs.YtfgpigblnkanpaaGreatDoor
open Go.RowKit Go.Maps Go.Shelf
set_option linter.unusedVariables false
set_option linter.unusedSimpArgs false

theorem infoFateJ : (Tryz.prog.info? 26).map (fun i => i.size) = some 1 := by kernel_rfl
set_option maxRecDepth 100000 in
theorem fate_results (tmps : Array Value) (w : World) (g : Nat) (x : Value) (tt : TypeId)
    (hp : tmps.getD 2 undef = .pointer (some ⟨g, 0, none⟩)) (hg : Blk w g [x] tt) :
    (results Tryz.f75 tmps).run Tryz.prog w = .ok (.agg #[x]) w := by
  have hp' : tmps[2]?.getD undef = .pointer (some ⟨g, 0, none⟩) := by simpa using hp
  have hl : (loadVar 26 ⟨g, 0, none⟩).run Tryz.prog w = .ok (.agg #[x]) w := run_loadVar_row w g tt _ #[x] (0, 0) _ hg Tryz.underlying26 rfl infoFateJ
  simp [results, Tryz.results75, hp', asAddr, hl]
set_option maxHeartbeats 2000000 in
set_option maxRecDepth 100000 in
theorem LentFate_any (w : World) (v : Value) (l : List Int) (h : IntsAt w v l) (hl : l.length ≤ 4294967296) : Calls Tryz.prog 75 #[.agg #[v]] w fun e w' => ∃ b cap, e = .returned (.agg #[.slice (some ⟨b, 0, none⟩) l.length cap]) ∧ w.heap.size ≤ b ∧ b < w'.heap.size ∧ l.length + 16 ≤ cap ∧ cap ≤ maxLen ∧ w'.ownsRow 0 3 1 (.slice (some ⟨b, 0, none⟩) (l.length + 16) cap) (l.length + 16) ((l ++ marksI 16).map (Value.int .i64)) ∧ Below w.heap.size w w' := by
  obtain ⟨ka, kc, rfl⟩ := h.len
  have hB0 : Below w.heap.size w (((w.alloc (.cells #[.slice ka l.length kc] 26)).alloc (.cells #[.slice none 0 0] 26)).alloc (.cells #[.slice ka l.length kc] 26)) := (((Below.refl _ w).alloc (Nat.le_refl _) _).alloc (by simp) _).alloc (by simp; omega) _
  have HF := Lib.hid (LentInts_any _ _ l (h.below hB0) hl)
  have hx1 := ((Blk.new w [.slice ka l.length kc] 26).alloc (.cells #[.slice none 0 0] 26)).alloc (.cells #[.slice ka l.length kc] 26)
  have hx2 := (Blk.new (w.alloc (.cells #[.slice ka l.length kc] 26)) [.slice none 0 0] 26).alloc (.cells #[.slice ka l.length kc] 26)
  have hx3 := Blk.new ((w.alloc (.cells #[.slice ka l.length kc] 26)).alloc (.cells #[.slice none 0 0] 26)) [.slice ka l.length kc] 26
  simp only [World.size_alloc] at hx2 hx3
  have x1 := hx1.cell 0
  simp only [List.getElem?_cons_zero] at x1
  have HB0 := Lib.hid hB0
  have HX2 := Lib.hid hx2
  have HX3 := Lib.hid hx3
  have hz := HB0.out.size
  clear h hB0 hx1 hx2 hx3
  go_enter Tryz.func75, Tryz.ntmps75
  go_wp2_with (fail)
  refine HF.out.mono ?_
  rintro e w1 ⟨b, cap, rfl, hb, hbl, hc, hm, ho, hb1⟩
  simp only [World.size_alloc] at hb
  have hy2 := HX2.out.below hb1 HX2.out.lt
  have hy3 := HX3.out.below hb1 HX3.out.lt
  have f2 := hy2.free 0
  have f3 := hy3.free 0
  have d2 := hy2.cell 0
  have d3 := hy3.cell 0
  simp only [List.getElem?_cons_zero] at d2 d3
  have hne2 : b ≠ w.heap.size + 1 := by omega
  have hne3 : b ≠ w.heap.size + 1 + 1 := by omega
  have hob : (Value.slice (some ⟨b, 0, none⟩) (l.length + 16) cap).ownBlock = some b := rfl
  have ho2 := ownsRow_setCell_other (ownsRow_setCell_other ho (a := ⟨w.heap.size + 1 + 1, 0, none⟩) (by rw [hob]; simpa using hne3) (.slice (some ⟨b, 0, none⟩) l.length cap)) (a := ⟨w.heap.size + 1, 0, none⟩) (by rw [hob]; simpa using hne2) (.slice (some ⟨b, 0, none⟩) l.length cap)
  have e2 : w.heap.size ≤ (⟨w.heap.size + 1 + 1, 0, none⟩ : Addr).block := by show w.heap.size ≤ w.heap.size + 1 + 1; omega
  have e1 : w.heap.size ≤ (⟨w.heap.size + 1, 0, none⟩ : Addr).block := by show w.heap.size ≤ w.heap.size + 1; omega
  have hbel := ((HB0.out.trans (hb1.mono HB0.out.size)).setCell e2 (.slice (some ⟨b, 0, none⟩) l.length cap)).setCell e1 (.slice (some ⟨b, 0, none⟩) l.length cap)
  have hz2 := (hy2.same (heap_setCell_other w1 ⟨w.heap.size + 1 + 1, 0, none⟩ _ (.slice (some ⟨b, 0, none⟩) l.length cap) (by simp))).set 0 (.slice (some ⟨b, 0, none⟩) l.length cap)
  have HZ2 := Lib.hid hz2
  have HO2 := Lib.hid ho2
  have HBEL := Lib.hid hbel
  have HBL := Lib.hid hbl
  have HM := Lib.hid hm
  clear e1 e2 ho ho2 hbel hz2 hy2 hy3 hb1 hbl hm HF HX2 HX3 HB0 hz
  go_wp2
  refine bodyPost_ret (v := .agg #[.slice (some ⟨b, 0, none⟩) l.length cap]) (fate_results _ _ (w.heap.size + 1) _ 26 rfl HZ2.out) rfl ?_
  exact ⟨b, cap, rfl, by omega, by simpa [World.setCell] using HBL.out, hc, HM.out, HO2.out, HBEL.out⟩
set_option maxRecDepth 100000 in
theorem KeptFate_any (w : World) (b cap : Nat) (v : Value) (l : List Int) (hc : l.length + 16 ≤ cap) (hm : cap ≤ maxLen) (ho : w.ownsRow 0 3 1 (.slice (some ⟨b, 0, none⟩) (l.length + 16) cap) (l.length + 16) ((l ++ marksI 16).map (Value.int .i64))) (hv : IntsAt w v l) (hl : l.length ≤ 4294967296) : Calls Tryz.prog 78 #[.agg #[.slice (some ⟨b, 0, none⟩) l.length cap], .agg #[v]] w fun e w' => e = .returned (.bool true) ∧ Below w.heap.size w w' := by
  obtain ⟨ka, kc, rfl⟩ := hv.len
  have hB0 : Below w.heap.size w ((w.alloc (.cells #[.slice (some ⟨b, 0, none⟩) l.length cap] 26)).alloc (.cells #[.slice ka l.length kc] 26)) := ((Below.refl _ w).alloc (Nat.le_refl _) _).alloc (by simp) _
  have HK := Lib.hid (KeptInts_any _ b cap _ l hc hm ((ho.alloc _).alloc _) (hv.below hB0) hl)
  have HB0 := Lib.hid hB0
  clear ho hv hB0
  go_enter Tryz.func78, Tryz.ntmps78
  go_wp2_with (fail)
  refine HK.out.mono ?_
  rintro e w1 ⟨rfl, rfl⟩
  go_wp2
  go_ret
  exact ⟨rfl, HB0.out⟩
end Go.Proofs.YtfgpigblnkanpaaGreatDoor
