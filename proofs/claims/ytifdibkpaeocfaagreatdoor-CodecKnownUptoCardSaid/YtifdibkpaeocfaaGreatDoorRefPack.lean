/- The walk of the document's Pack, over this translation. -/
import Derived.Test.YtifdibkpaeocfaaGreatDoorPack
import Derived.Test.YtifdibkpaeocfaaGreatDoorRef
import Derived.Test.YtifdibkpaeocfaaGreatDoorRef2
import Derived.Test.YtifdibkpaeocfaaGreatDoorRefPk
import Derived.Test.YtifdibkpaeocfaaGreatDoorOwnC
import Derived.BigQuiet
import Derived.IntWalk
import Derived.WalkLawsBesides
import Derived.Deep.RegionHeld3
import Derived.Deep.RegionWith
import Derived.Deep.DeepCutAuto
namespace Go.Proofs.YtifdibkpaeocfaaGreatDoor
open Go.RowKit
set_option linter.unusedSimpArgs false

def refPackAns (l : List PairL) : Value :=
  if 268435456 < sizeL l then .tuple #[strV [], .int .i64 5, .int .i64 (-1)] else
  match packGo 0 [] (uintL l.length) l with
  | .inl out => .tuple #[strV (out ++ crcTail out), .int .i64 0, .int .i64 (-1)]
  | .inr i => .tuple #[strV [], .int .i64 1, .int .i64 i]
theorem refPackAns_many {l : List PairL} (h : 268435456 < sizeL l) : refPackAns l = .tuple #[strV [], .int .i64 5, .int .i64 (-1)] := by rw [refPackAns, if_pos h]
theorem refPackAns_fault {l : List PairL} {i : Nat} (h : sizeL l ≤ 268435456) (hg : packGo 0 [] (uintL l.length) l = .inr i) : refPackAns l = .tuple #[strV [], .int .i64 1, .int .i64 i] := by
  rw [refPackAns, if_neg (by omega), hg]
theorem refPackAns_out {l : List PairL} {out : List UInt8} (h : sizeL l ≤ 268435456) (hg : packGo 0 [] (uintL l.length) l = .inl out) : refPackAns l = .tuple #[strV (out ++ crcTail out), .int .i64 0, .int .i64 (-1)] := by
  rw [refPackAns, if_neg (by omega), hg]
theorem conv_own (s : List UInt8) (hs : 0 < s.length) (hm : s.length ≤ 140737488355328) (B : Nat) (w : World) (hB : B ≤ w.heap.size) : ∃ v w', (convert 9 26 (.string (str s))).run Tryz.prog w = .ok v w' ∧ OwnC w' B v s ∧ Below B w w' := by
  have hr := run_bytes_of_string (P := Tryz.prog) w 9 26 5 (str s) Tryz.underlying9 Tryz.underlying26 Tryz.underlying5
  have es := str_size s
  have hge := grownCap_ge w (str s).size 0 5
  have hmx : grownCap w (str s).size 0 5 ≤ maxLen := grownCap_le_maxLen w (str s).size 0 5 (by unfold maxLen; omega)
  generalize grownCap w (str s).size 0 5 = c at *
  rw [es] at hr hge
  have hbr : bytesRow (str s) c = (s.map byteV ++ List.replicate (c - s.length) (Value.int .u8 0)).toArray := by
    rw [bytesRow, es]
    apply Array.ext'
    simp [str]
    intro a _; rfl
  rw [hbr] at hr
  have hsz : (s.map byteV ++ List.replicate (c - s.length) (Value.int .u8 0)).toArray.size = c := by simp; omega
  rw [hsz] at hr
  have hh : (w.drew.alloc (.cells (s.map byteV ++ List.replicate (c - s.length) (Value.int .u8 0)).toArray 5 (c, c + 1))).heap[w.heap.size]? = some (.cells (s.map byteV ++ List.replicate (c - s.length) (Value.int .u8 0)).toArray 5 (c, c + 1)) := heap_alloc_new w.drew _
  refine ⟨_, _, hr, ⟨w.heap.size, c, rfl, hB, hge, hmx, hs, ?_, ?_⟩, ((Below.refl B w).drew).alloc hB _⟩
  · intro j hj
    rw [Lib.cell_of_heap hh]
    simp [List.getElem?_append_left, hj]
  · intro j hj
    refine ⟨?_, ?_⟩
    · rw [Lib.cell_of_heap hh]
      rw [List.getElem?_toArray, List.getElem?_eq_getElem (by simp; omega)]
      rfl
    · simp only [World.frozen?]
      rw [hh]
      simp
      omega

set_option maxHeartbeats 4000000 in
set_option maxRecDepth 100000 in
theorem refPack_any (l : List PairL) (v : Value) (w : World) (hl : PairsAt w v l) (hok : PairsOk l) (hn : l.length * 32 ≤ 140737488351232) : Calls Tryz.prog 31 #[v] w fun e w' => e = .returned (refPackAns l) ∧ Below w.heap.size w w' := by
  obtain ⟨a, cap, rfl, hc⟩ := hl
  have HC := Lib.hid hc
  clear hc
  go_enter Tryz.func31, Tryz.ntmps31
  go_wp2
  go_loopw [5, 6] (fun n i wr => ∃ k : Nat, i = .int .i64 k ∧ k ≤ l.length ∧ n = .int .i64 (sizeL (l.take k) : Nat) ∧ sizeL (l.take k) ≤ 1000000000000000 ∧ Below w.heap.size w wr) (fun _ i _ => l.length - (intOf i).toNat)
  case atStart => exact ⟨0, rfl, by omega, rfl, by simp [sizeL], Below.refl _ _⟩
  case round =>
    obtain ⟨k, rfl, hk, rfl, hs, hbel⟩ := hrel
    by_cases hgo : k < l.length ∧ sizeL (l.take k) ≤ 268435456
    · obtain ⟨hlt, hsm⟩ := hgo
      obtain ⟨p, hp⟩ : ∃ p, l[k]? = some p := ⟨_, List.getElem?_eq_getElem hlt⟩
      obtain ⟨b, off, rfl, h1, h2⟩ := HC.out k p hp
      have hst := sizeL_take hp
      have hbl : b < w.heap.size := World.block_lt_of_cell? w _ h1
      replace h1 := (hbel.cell (p := ⟨b, off + k * 2, none⟩) hbl).trans h1
      replace h2 := (hbel.cell (p := ⟨b, off + k * 2 + 1, none⟩) hbl).trans h2
      obtain ⟨hq1, hq2⟩ := hok p (List.mem_of_getElem? hp)
      obtain ⟨x, hx⟩ : ∃ x, x = sizeL (l.take k) := ⟨_, rfl⟩
      rw [← hx] at hsm hs hst ⊢
      have HST := Lib.hid hst
      have HP := Lib.hid hp
      have HX := Lib.hid hx
      clear hst hp hx
      generalize hp1 : p.1 = pk at *
      generalize hp2 : p.2 = pv at *
      clear hp1 hp2
      have e1 := str_size pk
      have e2 := str_size pv
      go_wp2_with (fail)
      have a1 : IntKind.i64.wrap ((x : Int) + pk.length) = (x : Int) + pk.length := IntWalk.i64_in _ (by omega)
      have a2 : IntKind.i64.wrap ((x : Int) + pk.length + pv.length) = (x : Int) + pk.length + pv.length := IntWalk.i64_in _ (by omega)
      have a3 : (0 : Int) ≤ k := by omega
      have a4 : (k : Int) < l.length := by omega
      go_quiet (fail)
      go_wp2
      go_roundw
      case rel => exact ⟨k + 1, by go_num, by omega, by rw [HST.out]; refine int_eq ?_; omega, by rw [HST.out]; omega, below_drewN hbel _⟩
      case measure => simp [intOf]; omega
    · by_cases hmany : 268435456 < sizeL (l.take k)
      · have hm2 : 268435456 < sizeL l := by have := sizeL_take_le l k; omega
        have HM := Lib.hid (refPackAns_many hm2)
        obtain ⟨x, hx⟩ : ∃ x, x = sizeL (l.take k) := ⟨_, rfl⟩
        rw [← hx] at hmany hs ⊢
        clear hx hgo hm2
        by_cases hlt : k < l.length
        · go_wp2
          go_ret3
          exact ⟨by rw [HM.out]; rfl, hbel⟩
        · go_wp2
          go_ret3
          exact ⟨by rw [HM.out]; rfl, hbel⟩
      · have hk2 : l.take k = l := List.take_of_length_le (by omega)
        have hkl : k = l.length := by omega
        rw [hk2] at hmany hs ⊢
        clear hk2 hgo
        obtain ⟨x, hx⟩ : ∃ x, x = sizeL l := ⟨_, rfl⟩
        rw [← hx] at hmany hs ⊢
        have HX := Lib.hid hx
        have HKL := Lib.hid hkl
        clear hx
        subst hkl
        have hbs := hbel.size
        have hu0 : IntKind.u64.wrap (l.length : Int) = l.length := u64_in (by omega) (by omega)
        have hul := uintL_len (n := l.length) (by omega)
        have hup := uintL_pos l.length
        go_wp2_with (fail)
        refine (refUint_any l.length _ (by omega)).mono ?_
        rintro e w1 ⟨rfl, hb1⟩
        obtain ⟨v1, w2, hcv, hown, hb2⟩ := conv_own (uintL l.length) (by omega) (by omega) w.heap.size w1 (by have := hb1.size; omega)
        have hB := (hbel.trans (hb1.mono hbs)).trans hb2
        go_wp2
        go_loopw [7, 8, 9] (fun o ks i wr => ∃ (k : Nat) (key acc : List UInt8), i = .int .i64 k ∧ k ≤ l.length ∧ ks = .string (str key) ∧ Hid (packGo 0 [] (uintL l.length) l = packGo k key acc (l.drop k)) ∧ OwnC wr w.heap.size o acc ∧ acc.length ≤ 10 + 30 * k + sizeL (l.take k) ∧ key.length ≤ 140737488351232 ∧ Below w.heap.size w wr) (fun _ _ i _ => l.length - (intOf i).toNat)
        case atStart => exact ⟨0, [], _, rfl, by omega, rfl, rfl, hown, by simp [sizeL]; omega, by simp, hB⟩
        case round =>
          clear hown hB hcv hb1 hb2 hbel hbs
          obtain ⟨k, key, acc, rfl, hk, rfl, HG, hown, hacc, hkey, hbel⟩ := hrel
          have hbs := hbel.size
          by_cases hlt : k < l.length
          · obtain ⟨p, hp⟩ : ∃ p, l[k]? = some p := ⟨_, List.getElem?_eq_getElem hlt⟩
            obtain ⟨b, off, rfl, h1, h2⟩ := HC.out k p hp
            have hst := sizeL_take hp
            have hstl := sizeL_take_le l (k + 1)
            obtain ⟨hq1, hq2⟩ := hok p (List.mem_of_getElem? hp)
            have hbl : b < w.heap.size := World.block_lt_of_cell? w _ h1
            have g1 : ∀ wx, Below w.heap.size w wx → wx.cell? ⟨b, off + k * 2, none⟩ = some (strV p.1) := fun wx hx => (hx.cell (p := ⟨b, off + k * 2, none⟩) hbl).trans h1
            have g2 : ∀ wx, Below w.heap.size w wx → wx.cell? ⟨b, off + k * 2 + 1, none⟩ = some (strV p.2) := fun wx hx => (hx.cell (p := ⟨b, off + k * 2 + 1, none⟩) hbl).trans h2
            have G1 := Lib.hid g1
            have G2 := Lib.hid g2
            clear g1 g2
            replace h1 := G1.out _ hbel
            replace h2 := G2.out _ hbel
            have HST := Lib.hid hst
            have HP := Lib.hid hp
            obtain ⟨pk, pv⟩ := p
            have hbound : acc.length + (30 + (pk.length + pv.length)) ≤ 10 + 30 * (k + 1) + 268435456 := by
              rw [HX.out] at hmany
              simp only at hst
              omega
            clear hst hp hstl
            have e1 := str_size pk
            have e2 := str_size pv
            by_cases hr : 0 < k ∧ kle pk key = true
            · obtain ⟨hk0, hkl⟩ := hr
              have hkl2 := kle_walk hkl
              have HKL := Lib.hid hkl
              clear hkl
              go_wp2
              go_ret3
              refine ⟨?_, hbel⟩
              rw [refPackAns_fault (i := k) (by have := HX.out; omega) (by rw [HG.out]; exact packGo_bad (drop_cons HP.out) ⟨hk0, HKL.out⟩)]
              rfl
            · have hr2 : 0 < k → Op.bytesLess (str pk).toList (str key).toList = false ∧ ((str pk).toList == (str key).toList) = false := fun h0 => nkle_walk (by
                cases hq : kle pk key with
                | false => rfl
                | true => exact absurd ⟨h0, hq⟩ hr)
              have hmore := packGo_more (acc := acc) (drop_cons HP.out) hr
              have hcl := (cpl_le key pk).2
              have hpb : acc ++ uintL (cpl key pk) ++ uintL (pk.length - cpl key pk) ++ pk.drop (cpl key pk) ++ uintL pv.length ++ pv = acc ++ pairBytes key (pk, pv) := by simp [pairBytes]
              have hpbl := pairBytes_len key (pk, pv) (by show pk.length < _; omega) (by show pv.length < _; omega)
              have HR := Lib.hid hr
              have HR2 := Lib.hid hr2
              have HMORE := Lib.hid hmore
              have HPB := Lib.hid hpb
              have HPBL := Lib.hid hpbl
              clear hr hr2 hmore hpb hpbl
              go_upto_region 13 with (fail)
              go_cut [59] (fun t wx => t = .bool false ∧ wx = wr)
              case first =>
                by_cases hk0 : 0 < k
                · obtain ⟨q1, q2⟩ := HR2.out hk0
                  go_wp2_with (fail)
                  go_meet
                  exact ⟨rfl, rfl⟩
                · go_wp2_with (fail)
                  go_meet
                  exact ⟨rfl, rfl⟩
              case rest =>
                obtain ⟨rfl, rfl⟩ := hcut
                have hB := hbel
                clear hbel
                go_wp2_with (fail)
                refine (refshared_any (str key) (str pk) _ (by rw [str_size]; omega) (by rw [str_size]; omega)).mono ?_
                rintro e w4 ⟨rfl, hb⟩
                replace hB := hB.trans (hb.mono hB.size)
                replace hown := hown.below hb
                clear hb h1 h2
                have h1 := G1.out _ hB
                have h2 := G2.out _ hB
                rw [str_data, str_data]
                generalize hcp : cpl key pk = c at *
                have HCP := Lib.hid hcp
                clear hcp
                have hu1 : IntKind.u64.wrap (c : Int) = c := u64_in (by omega) (by omega)
                have hu3 : IntKind.u64.wrap (pv.length : Int) = pv.length := u64_in (by omega) (by omega)
                have hlc := uintL_len (n := c) (by omega)
                have hld := uintL_len (n := pk.length - c) (by omega)
                have hlv := uintL_len (n := pv.length) (by omega)
                have hcast : ((pk.length - c : Nat) : Int) = (pk.length : Int) - c := by omega
                have hx1 : (str pk).extract c pk.length = str (pk.drop c) := str_extract_to pk c
                have hUc := fun w => refUint_any c w (by omega)
                have hUd := fun w => refUint_any (pk.length - c) w (by omega)
                have hUv := fun w => refUint_any pv.length w (by omega)
                rw [hcast] at hUd
                clear hcast
                generalize uintL c = lc at *
                generalize uintL (pk.length - c) = ld at *
                generalize uintL pv.length = lv at *
                have HUC := Lib.hid hUc
                have HUD := Lib.hid hUd
                have HUV := Lib.hid hUv
                clear hUc hUd hUv
                have hu2 : IntKind.u64.wrap ((pk.length : Int) - c) = (pk.length : Int) - c := u64_in (by omega) (by omega)
                go_wp2_with (fail)
                refine (HUC.out _).mono ?_
                rintro e y1 ⟨rfl, hb⟩
                replace hB := hB.trans (hb.mono hB.size)
                replace hown := hown.below hb
                clear hb h1 h2
                have h1 := G1.out _ hB
                have h2 := G2.out _ hB
                go_wp2_with (at_builtin; refine wpList_append_ownC rfl _ _ rfl rfl hown lc rfl ?q1a ?q1b ?_)
                case q1a => exact hB.size
                case q1b => (first | omega | (simp only [List.length_append, List.length_drop]; omega))
                intro v11 x1 hown' hb
                replace hB := hB.trans hb
                clear hown hb h1 h2
                have hown := hown'
                clear hown'
                have h1 := G1.out _ hB
                have h2 := G2.out _ hB
                go_wp2_with (fail)
                refine (HUD.out _).mono ?_
                rintro e y1 ⟨rfl, hb⟩
                replace hB := hB.trans (hb.mono hB.size)
                replace hown := hown.below hb
                clear hb h1 h2
                have h1 := G1.out _ hB
                have h2 := G2.out _ hB
                go_wp2_with (at_builtin; refine wpList_append_ownC rfl _ _ rfl rfl hown ld rfl ?q2a ?q2b ?_)
                case q2a => exact hB.size
                case q2b => (first | omega | (simp only [List.length_append, List.length_drop]; omega))
                intro v12 x2 hown' hb
                replace hB := hB.trans hb
                clear hown hb h1 h2
                have hown := hown'
                clear hown'
                have h1 := G1.out _ hB
                have h2 := G2.out _ hB
                go_wp2_with (at_builtin; refine wpList_append_ownC rfl _ _ rfl rfl hown (pk.drop c) rfl ?q3a ?q3b ?_)
                case q3a => exact hB.size
                case q3b => (first | omega | (simp only [List.length_append, List.length_drop]; omega))
                intro v13 x3 hown' hb
                replace hB := hB.trans hb
                clear hown hb h1 h2
                have hown := hown'
                clear hown'
                have h1 := G1.out _ hB
                have h2 := G2.out _ hB
                go_wp2_with (fail)
                refine (HUV.out _).mono ?_
                rintro e y1 ⟨rfl, hb⟩
                replace hB := hB.trans (hb.mono hB.size)
                replace hown := hown.below hb
                clear hb h1 h2
                have h1 := G1.out _ hB
                have h2 := G2.out _ hB
                go_wp2_with (at_builtin; refine wpList_append_ownC rfl _ _ rfl rfl hown lv rfl ?q4a ?q4b ?_)
                case q4a => exact hB.size
                case q4b => (first | omega | (simp only [List.length_append, List.length_drop]; omega))
                intro v14 x4 hown' hb
                replace hB := hB.trans hb
                clear hown hb h1 h2
                have hown := hown'
                clear hown'
                have h1 := G1.out _ hB
                have h2 := G2.out _ hB
                go_wp2_with (at_builtin; refine wpList_append_ownC rfl _ _ rfl rfl hown pv rfl ?q5a ?q5b ?_)
                case q5a => exact hB.size
                case q5b => (first | omega | (simp only [List.length_append, List.length_drop]; omega))
                intro v15 x5 hown' hb
                replace hB := hB.trans hb
                clear hown hb h1 h2
                have hown := hown'
                clear hown'
                have h1 := G1.out _ hB
                have h2 := G2.out _ hB
                go_wp2
                go_roundw
                case rel =>
                  refine ⟨k + 1, pk, acc ++ pairBytes key (pk, pv), by go_num, by omega, rfl, ?_, ?_, ?_, hq1, hB⟩
                  · show _ = _
                    rw [HG.out, HMORE.out]
                  · rw [← HPB.out]
                    simpa only [List.append_assoc] using hown
                  · have e3 := HST.out
                    have e4 := HPBL.out
                    rw [List.length_append, e3]
                    omega
                case measure => simp [intOf]; omega
          · have hkl : k = l.length := by omega
            have hdrop : l.drop k = [] := List.drop_eq_nil_of_le (by omega)
            have hans : packGo 0 [] (uintL l.length) l = .inl acc := by rw [HG.out, hdrop]; rfl
            have ha := refPackAns_out (by have := HX.out; omega) hans
            have hal : acc.length ≤ 140737488355328 := by
              have h1 := sizeL_take_le l k
              rw [← HX.out] at h1
              omega
            have HA := Lib.hid ha
            have hc0 := hown.text
            have hc1 : (convert 26 9 u7).run Tryz.prog wr.drew = .ok (strV acc) wr.drew := (hown.below ((Below.refl _ _).drew)).text
            have hct : (crcTail acc).length = 4 := rfl
            have hfour : fourL (crc acc) = crcTail acc := rfl
            have hadd := add_run acc (crcTail acc) (by rw [hct]; omega)
            have HD := Lib.hid hdrop
            have HN := Lib.hid hans
            clear ha hdrop hans hkl hct
            go_wp2_with (fail)
            go_region_with (first
                | (go_at_call 5; refine (refSum_any acc _ (by omega)).mono ?_; rintro e w5 ⟨rfl, rfl⟩)
                | (go_at_call 33; refine (reffour_any (crc acc) _).mono ?_; rw [hfour]; rintro e w6 ⟨rfl, hb6⟩; have hc6 := (hown.below (below_undrew hb6)).text))
            all_goals
              go_wp2
              go_ret3
              exact ⟨by rw [HA.out]; rfl, hbel.trans ((below_undrew hb6).mono hbel.size)⟩
end Go.Proofs.YtifdibkpaeocfaaGreatDoor
