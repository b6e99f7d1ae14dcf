/- The walk of the codec's Pack, over this translation. -/
import Derived.Test.YtifdibkpaeocfaaGreatDoorBld
import Derived.Test.YtifdibkpaeocfaaGreatDoorPk
import Derived.Deep.RegionHeld3
import Derived.WalkLawsBesides
import Derived.Deep.DeepCutAuto
namespace Go.Proofs.YtifdibkpaeocfaaGreatDoor
open Go.RowKit

theorem keepBuilder {T e : TypeId} {B b : Nat} {bs : List Value} {w w' : World} (h : Lib.IsBuilder T e B b bs w) (hb : Below w.heap.size w w') : Lib.IsBuilder T e B b bs w' := by
  have key : ∀ p, Lib.BuilderAt T e B b p bs w → Lib.BuilderAt T e B b p bs w' := by
    rintro p ⟨hB, v, h1, hown, hne⟩
    have hlt : b < w.heap.size := Lib.BuilderAt.lt ⟨hB, v, h1, hown, hne⟩
    exact ⟨hB, v, (hb.block b hlt).trans h1, hown.kept (row := none) ⟨hb.os, hb.tape, hb.output, hb.size, fun k hk _ => hb.block k hk⟩ (by cases v.ownBlock <;> simp), hne⟩
  rcases h with h | h
  · exact Or.inl (key _ h)
  · exact Or.inr (key _ h)
def faultV (no at_ : Nat) : Value := .iface 96 (.agg #[.int .i64 no, .int .i64 0, .int .i64 at_])
/-- What Pack answers. -/
def packAns (l : List PairL) : Value :=
  if 268435456 < sizeL l then .tuple #[strV [], .iface 90 (.int .i64 5)] else
  match packGo 0 [] (uintL l.length) l with
  | .inl out => .tuple #[strV (out ++ crcTail out), .nilIface]
  | .inr i => .tuple #[strV [], faultV 1 i]
def PackPost (B : Nat) (w : World) (l : List PairL) (e : Ending) (w' : World) : Prop := e = .returned (packAns l) ∧ Below B w w'
theorem packAns_many {l : List PairL} (h : 268435456 < sizeL l) : packAns l = .tuple #[strV [], .iface 90 (.int .i64 5)] := by rw [packAns, if_pos h]
theorem packAns_fault {l : List PairL} {i : Nat} (h : sizeL l ≤ 268435456) (hg : packGo 0 [] (uintL l.length) l = .inr i) : packAns l = .tuple #[strV [], faultV 1 i] := by
  rw [packAns, if_neg (by omega), hg]
theorem packAns_out {l : List PairL} {out : List UInt8} (h : sizeL l ≤ 268435456) (hg : packGo 0 [] (uintL l.length) l = .inl out) : packAns l = .tuple #[strV (out ++ crcTail out), .nilIface] := by
  rw [packAns, if_neg (by omega), hg]

set_option maxHeartbeats 2000000 in
set_option maxRecDepth 100000 in
theorem Pack_any (l : List PairL) (v : Value) (w : World) (hl : PairsAt w v l) (hok : PairsOk l) (hn : l.length * 32 ≤ 140737488351232) : Calls Tryz.prog 19 #[v] w fun e w' => PackPost w.heap.size w l e w' := by
  obtain ⟨a, cap, rfl, hc⟩ := hl
  have HC := Lib.hid hc
  clear hc
  go_enter Tryz.func19, Tryz.ntmps19
  go_wp2
  go_loopw [4, 16] (fun n i wr => ∃ k : Nat, i = .int .i64 k ∧ k ≤ l.length ∧ n = .int .i64 (sizeL (l.take k) : Nat) ∧ sizeL (l.take k) ≤ 268435456 ∧ Below w.heap.size w wr) (fun _ i _ => l.length - (intOf i).toNat)
  case atStart => exact ⟨0, rfl, by omega, rfl, by simp [sizeL], Below.refl _ _⟩
  case round =>
    obtain ⟨k, rfl, hk, rfl, hs, hbel⟩ := hrel
    by_cases hlt : k < l.length
    · obtain ⟨p, hp⟩ : ∃ p, l[k]? = some p := ⟨_, List.getElem?_eq_getElem hlt⟩
      obtain ⟨b, off, rfl, h1, h2⟩ := HC.out k p hp
      have hst := sizeL_take hp
      have hpo := hok p (List.mem_of_getElem? hp)
      have hbl : b < w.heap.size := World.block_lt_of_cell? w _ h1
      have hsz := hbel.size
      replace h1 := (hbel.cell (p := ⟨b, off + k * 2, none⟩) hbl).trans h1
      replace h2 := (hbel.cell (p := ⟨b, off + k * 2 + 1, none⟩) hbl).trans h2
      obtain ⟨hq1, hq2⟩ := hpo
      generalize hx : sizeL (l.take k) = x at *
      have HST := Lib.hid hst
      have HP := Lib.hid hp
      have HX := Lib.hid hx
      clear hst hp hx
      generalize hp1 : p.1 = pk at *
      generalize hp2 : p.2 = pv at *
      clear hp1 hp2
      have e1 := str_size pk
      have e2 := str_size pv
      by_cases hmany : 268435456 < x + (pk.length + pv.length)
      · go_wp2
        go_ret2
        refine ⟨?_, hbel.alloc hsz _⟩
        have := sizeL_take_le l (k + 1)
        rw [HST.out] at this
        rw [packAns_many (by omega)]
        rfl
      · go_wp2
        go_roundw
        case rel => exact ⟨k + 1, by go_num, by omega, by rw [HST.out]; go_num, by rw [HST.out]; omega, hbel.alloc hsz _⟩
        case measure => simp [intOf]; omega
    · have hk2 : l.take k = l := List.take_of_length_le (by omega)
      rw [hk2] at hs ⊢
      clear hk2
      generalize hx : sizeL l = x at *
      have HX := Lib.hid hx
      clear hx
      have hsz := hbel.size
      go_wp2_with fail
      refine (Uint_of _ l.length _ rfl (by show _ < _; omega)).mono ?_
      rintro e w1 ⟨rfl, hb1⟩
      have hB : Lib.IsBuilder 126 5 wr.heap.size wr.heap.size (Lib.byteCells []) w1 := by
        left
        refine ⟨Nat.le_refl _, .slice none 0 0, ?_, World.ownsRow_nil _ _ _ _, by simp [Value.ownBlock]⟩
        rw [hb1.block _ (by simp)]
        exact Blk.new wr [_, _] _
      have hs1 := hb1.size
      go_wp2_with fail
      refine (WriteString_any wr.heap.size wr.heap.size [] _ _ hB (by have := uintL_len (n := l.length) (by omega); rw [str_size]; simp; omega) (by simp at hs1; omega)).mono ?_
      rintro e w2 ⟨rfl, hB2, hb2, _⟩
      rw [str_data, List.nil_append] at hB2
      have hs2 := hb2.size
      have hbelw : Below w.heap.size w w2 := ((hbel.alloc hsz _).trans (hb1.mono (by simp; omega))).trans (hb2.mono hsz)
      generalize hBB : wr.heap.size = B at *
      clear hB hb1 hb2 hbel
      have hne0 : uintL l.length ≠ [] := by
        have := uintL_pos l.length
        intro e; rw [e] at this; simp at this
      have hlen0 := uintL_len (n := l.length) (by omega)
      go_wp2
      go_loopw [8, 40] (fun ks i wr => ∃ (k : Nat) (key acc : List UInt8), i = .int .i64 k ∧ k ≤ l.length ∧ ks = .string (str key) ∧ Hid (packGo 0 [] (uintL l.length) l = packGo k key acc (l.drop k)) ∧ Lib.IsBuilder 126 5 B B (Lib.byteCells acc) wr ∧ acc.length ≤ 10 + 30 * k + sizeL (l.take k) ∧ key.length ≤ 140737488351232 ∧ acc ≠ [] ∧ Below w.heap.size w wr ∧ B < wr.heap.size) (fun _ i _ => l.length - (intOf i).toNat)
      case atStart => exact ⟨0, [], _, rfl, by omega, rfl, rfl, hB2, by simp [sizeL]; omega, by simp, hne0, hbelw, by simp at hs1; omega⟩
      case round =>
        clear hB2 hbelw hs1 hs2 hne0 hlen0
        obtain ⟨k, key, acc, rfl, hk, rfl, HG, hBld, hacc, hkey, hane, hbel, hBlt⟩ := hrel
        by_cases hlt : k < l.length
        · obtain ⟨p, hp⟩ : ∃ p, l[k]? = some p := ⟨_, List.getElem?_eq_getElem hlt⟩
          obtain ⟨b, off, rfl, h1, h2⟩ := HC.out k p hp
          have hst := sizeL_take hp
          have hpo := hok p (List.mem_of_getElem? hp)
          have hbl : b < w.heap.size := World.block_lt_of_cell? w _ h1
          have hsz := hbel.size
          replace h1 := (hbel.cell (p := ⟨b, off + k * 2, none⟩) hbl).trans h1
          replace h2 := (hbel.cell (p := ⟨b, off + k * 2 + 1, none⟩) hbl).trans h2
          obtain ⟨hq1, hq2⟩ := hpo
          have HST := Lib.hid hst
          have HP := Lib.hid hp
          clear hst hp
          obtain ⟨pk, pv⟩ := p
          have e1 := str_size pk
          have e2 := str_size pv
          by_cases hr : 0 < k ∧ kle pk key = true
          · obtain ⟨hk0, hkl⟩ := hr
            have hkl2 := kle_walk hkl
            have HKL := Lib.hid hkl
            clear hkl
            go_wp2
            go_ret2
            refine ⟨?_, hbel.alloc hsz _⟩
            rw [packAns_fault (i := k) (by rw [HX.out]; exact hs) (by rw [HG.out]; exact packGo_bad (drop_cons HP.out) ⟨hk0, HKL.out⟩)]
            rfl
          · have hw3 : Blk (wr.alloc (.cells #[strV pk, strV pv] 33)) wr.heap.size [strV pk, strV pv] 33 := Blk.new _ [_, _] _
            have hbel3 : Below w.heap.size w (wr.alloc (.cells #[strV pk, strV pv] 33)) := hbel.alloc hsz _
            have hBld3 : Lib.IsBuilder 126 5 B B (Lib.byteCells acc) (wr.alloc (.cells #[strV pk, strV pv] 33)) := keepBuilder hBld ((Below.refl _ _).alloc (Nat.le_refl _) _)
            have hr2 : 0 < k → Op.bytesLess (str pk).toList (str key).toList = false ∧ ((str pk).toList == (str key).toList) = false := fun h0 => nkle_walk (by
              cases hq : kle pk key with
              | false => rfl
              | true => exact absurd ⟨h0, hq⟩ hr)
            have HR := Lib.hid hr
            have HR2 := Lib.hid hr2
            clear hr hr2 hBld hbel
            go_upto_region 15 with (fail)
            go_cut [52] (fun t wx => t = .bool false ∧ wx = wr.alloc (.cells #[strV pk, strV pv] 33))
            case first =>
              by_cases hk0 : 0 < k
              · obtain ⟨q1, q2⟩ := HR2.out hk0
                go_wp2_with (fail)
                go_meet
                exact ⟨rfl, rfl⟩
              · go_wp2_with (fail)
                go_meet
                exact ⟨rfl, rfl⟩
            case rest =>
              obtain ⟨rfl, rfl⟩ := hcut
              generalize hw : wr.alloc (.cells #[strV pk, strV pv] 33) = w3 at *
              generalize hg3 : wr.heap.size = g3 at *
              have HHW := Lib.hid hw
              have HHG := Lib.hid hg3
              clear hw hg3
              have hlt3 := hw3.lt
              have c0 := hw3.cell 0
              have c1 := hw3.cell 1
              simp only [List.getElem?_cons_zero, List.getElem?_cons_succ] at c0 c1
              go_wp2_with (fail)
              refine (shared_any (str key) (str pk) _ (by rw [str_size]; omega) (by rw [str_size]; omega)).mono ?_
              rintro e w4 ⟨rfl, hb4⟩
              have hs4 := hb4.size
              have hw4 := hw3.below hb4 hlt3
              have hBld4 := keepBuilder hBld3 hb4
              have hbel4 := hbel3.trans (hb4.mono hbel3.size)
              clear hw3 hBld3 hbel3 hb4 c0 c1
              rw [str_data, str_data]
              have hcl := (cpl_le key pk).2
              generalize hcp : cpl key pk = c at *
              have HCP := Lib.hid hcp
              clear hcp
              have hlt4 := hw4.lt
              have c0 := hw4.cell 0
              have c1 := hw4.cell 1
              simp only [List.getElem?_cons_zero, List.getElem?_cons_succ] at c0 c1
              go_upto_region 19 with (fail)
              go_cut [81, 82, 83] (fun s81 s82 s83 wx => ∃ g, s81 = .slice (some ⟨g,0,none⟩) 5 5 ∧ s82 = .int .i64 5 ∧ s83 = .int .i64 0 ∧ Blk wx g [strV (uintL c), strV (uintL (pk.length - c)), strV (pk.drop c), strV (uintL pv.length), strV pv] 9 ∧ Below w4.heap.size w4 wx)
              case first =>
                have hwr : IntKind.i64.wrap ((pk.length : Int) - (c : Int)) = (pk.length : Int) - (c : Int) := IntWalk.i64_in _ (by omega)
                have hu1 : IntKind.u64.wrap (c : Int) = c := u64_in (by omega) (by omega)
                have hu2 : IntKind.u64.wrap ((pk.length : Int) - (c : Int)) = (pk.length : Int) - (c : Int) := u64_in (by omega) (by omega)
                have hu3 : IntKind.u64.wrap (pv.length : Int) = pv.length := u64_in (by omega) (by omega)
                have hwr0 : (0 : Int) ≤ (pk.length : Int) - (c : Int) := by omega
                go_region_held3 (fun w' => w'.cell? ⟨g3, 0, none⟩ = some (strV pk) ∧ w'.cell? ⟨g3, 1, none⟩ = some (strV pv)) (go_keep)
                  (first
                    | (go_at_call_of 67 (Value.int .u64 (c : Int)); refine (Uint_of _ c _ rfl (by show _ < _; omega)).mono ?_; rintro e w5 ⟨rfl, hb5⟩; have hs5 : g3 < w5.heap.size := Nat.lt_of_lt_of_le hlt4 hb5.size; have k50 := (hb5.cell (p := ⟨g3, 0, none⟩) hlt4).trans c0; have k51 := (hb5.cell (p := ⟨g3, 1, none⟩) hlt4).trans c1)
                    | (go_at_call_of 67 (Value.int .u64 ((pk.length : Int) - (c : Int))); refine (Uint_of _ (pk.length - c) _ (by show _ = _; omega) (by show _ < _; omega)).mono ?_; rintro e w6 ⟨rfl, hb6⟩; have hs6 : g3 < w6.heap.size := Nat.lt_of_lt_of_le hs5 hb6.size; have k60 := (hb6.cell (p := ⟨g3, 0, none⟩) hs5).trans k50; have k61 := (hb6.cell (p := ⟨g3, 1, none⟩) hs5).trans k51)
                    | (go_at_call_of 67 (Value.int .u64 (pv.length : Int)); refine (Uint_of _ pv.length _ rfl (by show _ < _; omega)).mono ?_; rintro e w7 ⟨rfl, hb7⟩; have hs7 : g3 < w7.heap.size := Nat.lt_of_lt_of_le hs6 hb7.size; have k70 := (hb7.cell (p := ⟨g3, 0, none⟩) hs6).trans k60; have k71 := (hb7.cell (p := ⟨g3, 1, none⟩) hs6).trans k61))
                go_wp2_with (fail)
                go_meet
                refine ⟨_, rfl, rfl, rfl, ?_, (((below_undrew hb5).trans (hb6.mono hb5.size)).trans (hb7.mono (Nat.le_trans hb5.size hb6.size))).alloc (Nat.le_trans hb5.size (Nat.le_trans hb6.size hb7.size)) _⟩
                rw [str_extract_to]
                exact Blk.new w7 [_, _, _, _, _] _
              case rest =>
                obtain ⟨g, rfl, rfl, rfl, hg, hbg⟩ := hcut
                have hBld5 := keepBuilder hBld4 hbg
                have hbel5 := hbel4.trans (hbg.mono hbel4.size)
                have hBg : B < wc.heap.size := by
                  have h1 := hbg.size
                  have h2 : B < g3 := hBlt
                  omega
                have hss0 : [uintL c, uintL (pk.length - c), pk.drop c, uintL pv.length, pv].flatten = pairBytes key (pk, pv) := by
                  rw [← HCP.out]; exact pairBytes_flat key (pk, pv)
                have hpbl := pairBytes_len key (pk, pv) (by show pk.length < _; omega) (by show pv.length < _; omega)
                generalize hss : [uintL c, uintL (pk.length - c), pk.drop c, uintL pv.length, pv] = ss at *
                have hg' : Blk wc g (ss.map strV) 9 := by rw [← hss]; exact hg
                clear hg hw4 hBld4 hbel4 hbg c0 c1
                have hsl : ss.length = 5 := by rw [← hss]; rfl
                have HSS := Lib.hid hss0
                have HSL := Lib.hid hsl
                clear hss hsl hss0
                have htot : acc.length + (30 + (pk.length + pv.length)) ≤ 10 + 30 * (k + 1) + 268435456 := by
                  have h1 := sizeL_take_le l (k + 1)
                  rw [HST.out, HX.out] at h1
                  omega
                go_wp2
                go_loopw [83] (fun i wx => ∃ j : Nat, i = .int .i64 j ∧ j ≤ 5 ∧ Lib.IsBuilder 126 5 B B (Lib.byteCells (acc ++ (ss.take j).flatten)) wx ∧ Blk wx g (ss.map strV) 9 ∧ Below w.heap.size w wx ∧ B < wx.heap.size) (fun i _ => 5 - (intOf i).toNat)
                case atStart => exact ⟨0, rfl, by omega, by simpa using hBld5, hg', hbel5, hBg⟩
                case round =>
                  clear hBld5 hg' hbel5 hBg
                  obtain ⟨j, rfl, hj, hBd, hgb, hbel6, hBlt6⟩ := hrel
                  by_cases hjl : j < 5
                  · obtain ⟨t, ht⟩ : ∃ t, ss[j]? = some t := ⟨_, List.getElem?_eq_getElem (by rw [HSL.out]; exact hjl)⟩
                    have hcl6 : wr.cell? ⟨g, j, none⟩ = some (strV t) := by rw [hgb.cell, List.getElem?_map, ht]; rfl
                    have HT := Lib.hid ht
                    clear ht
                    have hfl := flat_take_le ss (j + 1)
                    rw [HSS.out, flat_step HT.out, List.length_append] at hfl
                    go_wp2_with (fail)
                    refine (WriteString_any B B _ (str t) _ hBd (by rw [str_size, List.length_append]; omega) (by omega)).mono ?_
                    rintro e w6 ⟨rfl, hBd6, hb6, ho6⟩
                    have HO6 := Lib.hid ho6
                    clear ho6
                    go_wp2
                    go_roundw
                    case rel => exact ⟨j + 1, by go_num, by omega, by rw [flat_step HT.out, ← List.append_assoc]; exact hBd6, HO6.out g _ _ _ hgb (by decide) (by
                      intro e
                      subst e
                      rcases hBd with ⟨_, v, hv, _⟩ | ⟨_, v, hv, _⟩
                      all_goals
                        have := hgb.symm.trans hv
                        simp at this), hbel6.trans (hb6.mono (by omega)), by have := hb6.size; omega⟩
                    case measure => simp [intOf]; omega
                  · have hj5 : ss.take j = ss := List.take_of_length_le (by rw [HSL.out]; omega)
                    rw [hj5, HSS.out] at hBd
                    have hpbl2 := hpbl
                    rw [← HSS.out] at hpbl2
                    go_wp2
                    go_roundw
                    case rel => exact ⟨k + 1, pk, acc ++ pairBytes key (pk, pv), by go_num, by omega, rfl, by
                      show _ = _
                      rw [HG.out, packGo_more (drop_cons HP.out) HR.out], hBd, by
                      have h1 := HST.out
                      rw [List.length_append, ← HSS.out, h1]; omega, hq1, by simp [hane], hbel6, hBlt6⟩
                    case measure => simp [intOf]; omega
        · have e0 : l.drop k = [] := List.drop_eq_nil_of_le (by omega)
          have hG := HG.out
          rw [e0] at hG
          have HG2 := Lib.hid hG
          clear hG e0
          have hS := BldS.of hBld hane
          have hsz := hbel.size
          have hal : acc.length ≤ 140737488351232 := by
            have h1 := sizeL_take_le l k
            rw [HX.out] at h1
            omega
          clear hBld
          go_wp2_with (fail)
          refine (BString_any B B acc _ hS).mono ?_
          rintro e w3 ⟨rfl, hS3, hb3⟩
          go_wp2_with (fail)
          refine (BString_any B B acc _ hS3).mono ?_
          rintro e w4 ⟨rfl, hS4, hb4⟩
          go_wp2_with (fail)
          refine (tail_any _ _ (by rw [str_size]; omega)).mono ?_
          rintro e w5 ⟨rfl, hb5⟩
          have hz3 := hb3.size
          have hz4 := hb4.size
          have e3 := str_size acc
          have e4 := str_size (crcTail (str acc).data.toList)
          have e5 : (crcTail (str acc).data.toList).length = 4 := rfl
          go_wp2
          go_ret2
          refine ⟨?_, ((hbel.trans (hb3.mono (by omega))).trans (hb4.mono (by omega))).trans (hb5.mono (by omega))⟩
          rw [packAns_out (out := acc) (by rw [HX.out]; exact hs) (by rw [HG2.out]; rfl)]
          exact ret2 (by show Value.string (str acc ++ str (crcTail acc)) = _; rw [str_append]) rfl
end Go.Proofs.YtifdibkpaeocfaaGreatDoor
