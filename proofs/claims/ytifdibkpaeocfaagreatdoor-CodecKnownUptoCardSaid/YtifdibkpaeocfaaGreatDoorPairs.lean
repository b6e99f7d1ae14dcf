/- The walk of the statement CodecPairs. -/
import Derived.Test.YtifdibkpaeocfaaGreatDoorWorks
import Derived.Test.YtifdibkpaeocfaaGreatDoorTurn
import Derived.Test.YtifdibkpaeocfaaGreatDoorFew
import Derived.Test.YtifdibkpaeocfaaGreatDoorCopy
import Derived.Test.YtifdibkpaeocfaaGreatDoorOnce
import Derived.Test.YtifdibkpaeocfaaGreatDoorNum
import Derived.Test.YtifdibkpaeocfaaGreatDoorStr
import Derived.WalkLawsBesides
import Derived.BigQuiet
import Derived.IntWalk
import Derived.Deep.RegionWith
import Derived.Deep.DeepCutAuto
namespace Go.Proofs.YtifdibkpaeocfaaGreatDoor
open Go.RowKit

set_option maxHeartbeats 2000000 in
set_option maxRecDepth 100000 in
theorem CodecPairs_any (l : List PairL) (v : Value) (k : Int) (by_ : UInt8) (w : World) (hl : PairsAt w v l) (hok : PairsOk l) (hn : l.length * 32 ≤ 140737488351232) : Calls Tryz.prog 30 #[v, .int .i64 k, .int .u8 by_.toNat] w fun e w' => e = .returned (.bool true) ∧ Below w.heap.size w w' := by
  obtain ⟨a, cap, hv⟩ := PairsAt.size hl
  by_cases hfew : l.length + sizeL l ≤ 65536
  · by_cases hmany : 16384 < l.length
    · have hd : decide (l.length + sizeL l ≤ 65536) = true := by simpa using hfew
      have HD := Lib.hid hd
      have HL := Lib.hid hl
      clear hd hl
      subst hv
      go_enter Tryz.func30, Tryz.ntmps30
      go_wp2_with (fail)
      refine (few_any l _ _ HL.out hok hn).mono ?_
      rintro e w1 ⟨rfl, hb1⟩
      rw [HD.out]
      go_wp2
      go_ret
      exact ⟨rfl, hb1⟩
    · have hd : decide (l.length + sizeL l ≤ 65536) = true := by simpa using hfew
      have HD := Lib.hid hd
      have HL := Lib.hid hl
      obtain ⟨a', cap', hv', hc⟩ := hl
      have HC := Lib.hid hc
      have HV := Lib.hid hv
      clear hd hc
      rw [hv] at hv'
      obtain ⟨rfl, rfl⟩ : a = a' ∧ cap = cap' := by simpa using hv'
      clear hv'
      subst hv
      go_enter Tryz.func30, Tryz.ntmps30
      go_wp2_with (fail)
      refine (few_any l _ _ HL.out hok hn).mono ?_
      rintro e w1 ⟨rfl, hb1⟩
      rw [HD.out]
      go_wp2
      go_loopw [7] (fun i wr => ∃ j : Nat, i = .int .i64 j ∧ 1 ≤ j ∧ (j ≤ l.length ∨ j = 1) ∧ Hid (∀ m p q, m + 1 < j → l[m]? = some p → l[m + 1]? = some q → kle q.1 p.1 = false) ∧ Below w.heap.size w wr) (fun i _ => l.length - (intOf i).toNat)
      case atStart => exact ⟨1, rfl, by omega, Or.inr rfl, fun m p q hm => by omega, hb1⟩
      case round =>
        obtain ⟨j, rfl, hj1, hj2, hris, hbel⟩ := hrel
        by_cases hlt : j < l.length
        · obtain ⟨p, hp⟩ : ∃ p, l[j - 1]? = some p := ⟨_, List.getElem?_eq_getElem (by omega)⟩
          obtain ⟨q, hq⟩ : ∃ q, l[j]? = some q := ⟨_, List.getElem?_eq_getElem hlt⟩
          obtain ⟨b, off, rfl, h1, _⟩ := HC.out _ p hp
          obtain ⟨b', off', hbb, h2, _⟩ := HC.out _ q hq
          obtain ⟨rfl, rfl⟩ : b = b' ∧ off = off' := by simpa using hbb
          clear hbb
          have hbl : b < w.heap.size := World.block_lt_of_cell? w _ h1
          replace h1 := (hbel.cell (p := ⟨b, off + (j - 1) * 2, none⟩) hbl).trans h1
          replace h2 := (hbel.cell (p := ⟨b, off + j * 2, none⟩) hbl).trans h2
          obtain ⟨i, hi⟩ : ∃ i, j = i + 1 := ⟨j - 1, by omega⟩
          subst hi
          rw [Nat.add_sub_cancel] at h1 hp
          have HP := Lib.hid hp
          have HQ := Lib.hid hq
          clear hp hq
          generalize hp1 : p.1 = pk at *
          generalize hq1 : q.1 = qk at *
          have HP1 := Lib.hid hp1
          have HQ1 := Lib.hid hq1
          clear hp1 hq1
          have hji : ((i + 1 : Nat) : Int) = (i : Int) + 1 := by omega
          rw [hji]
          clear hji
          have a1 : IntKind.i64.wrap ((i : Int) + 1 - 1) = (i : Int) := by rw [IntWalk.i64_in _ (by omega)]; omega
          have a2 : (0 : Int) ≤ (i : Int) := by omega
          have a3 : (0 : Int) ≤ (i : Int) + 1 := by omega
          have a4 : (i : Int) + 1 < l.length := by omega
          have a5 : (i : Int) < l.length := by omega
          have a6 : ((i : Int) + 1).toNat = i + 1 := by omega
          by_cases hk : kle qk pk = true
          · have hcmp := kle_walk hk
            have HK := Lib.hid hk
            clear hk
            go_wp2_with (fail)
            go_quiet (fail)
            go_wp2_with (fail)
            refine (works_any _).mono ?_
            rintro e w2 ⟨rfl, hb2⟩
            go_wp2
            go_ret
            exact ⟨rfl, (below_drewN hbel _).trans (hb2.mono hbel.size)⟩
          · have hk' : kle qk pk = false := by simpa using hk
            obtain ⟨c1, c2⟩ := nkle_walk hk'
            have HK := Lib.hid hk'
            clear hk hk'
            go_wp2_with (fail)
            go_quiet (fail)
            go_wp2
            go_roundw
            case rel =>
              refine ⟨i + 2, by go_num, by omega, by omega, ?_, below_drewN hbel _⟩
              intro m p' q' hm hp' hq'
              rcases Nat.lt_or_ge (m + 1) (i + 1) with h | h
              · exact hris.out m p' q' h hp' hq'
              · have e : m = i := by omega
                subst e
                rw [HP.out] at hp'
                rw [HQ.out] at hq'
                simp only [Option.some.injEq] at hp' hq'
                rw [← hp', ← hq', HP1.out, HQ1.out]
                exact HK.out
            case measure => simp [intOf]; omega
        · have hris2 : ∀ m p q, l[m]? = some p → l[m + 1]? = some q → kle q.1 p.1 = false := fun m p q hp hq => hris.out m p q (by obtain ⟨h, _⟩ := List.getElem?_eq_some_iff.1 hq; omega) hp hq
          obtain ⟨out, hout⟩ := packGo_rises l 0 [] (uintL l.length) (fun _ _ h => absurd h (by omega)) hris2
          clear hris hris2
          have hpa : packAns l = .tuple #[strV (out ++ crcTail out), .nilIface] := packAns_out (by omega) hout
          have hup := unpack_pack hout (by omega) (by omega)
          obtain ⟨ho1, ho2⟩ := packed_len (by omega) (by omega) hout
          have hsl : (out ++ crcTail out).length = out.length + 4 := by simp [crcTail_len]
          have hturn := fun p x hp => unpack_turned (out := out) (p := p) (x := x) ho1 hp
          generalize hS : out ++ crcTail out = S at *
          have HPA := Lib.hid hpa
          have HUP := Lib.hid hup
          have HT := Lib.hid hturn
          have HO := Lib.hid hout
          have HS := Lib.hid hS
          clear hpa hup hturn hout hS
          have hs1 : 5 ≤ S.length := by omega
          have hs2 : S.length ≤ 1000000 := by omega
          clear hsl ho1 ho2
          have eS := str_size S
          go_wp2_with (fail)
          refine (CopyPairs_any l _ _ (HL.out.below hbel) hn).mono ?_
          rintro e w2 ⟨u, rfl, hu, hb2⟩
          have hB := hbel.trans (hb2.mono hbel.size)
          clear hb2
          have HUU := Lib.hid hu
          clear hu
          go_wp2_with (fail)
          refine (Pack_any l u _ HUU.out hok hn).mono ?_
          rintro e w3 ⟨rfl, hb⟩
          rw [HPA.out]
          replace hB := hB.trans (hb.mono hB.size)
          clear hb
          go_wp2_with (fail)
          refine (Unpack_any S _ (by omega)).mono ?_
          rintro e w4 ⟨va, rfl, hva, hb, _⟩
          rw [HUP.out] at hva ⊢
          rw [show errV (l, 0).2 = .nilIface from rfl]
          replace hB := hB.trans (hb.mono hB.size)
          clear hb
          have HVA := Lib.hid (PairsAt.own hva)
          clear hva
          go_wp2_with (fail)
          refine (SamePairs_any l l _ _ _ HVA.out (HL.out.below hB) (by omega)).mono ?_
          rintro e w5 ⟨rfl, hb⟩
          rw [show decide (l = l) = true from by simp]
          replace hB := hB.trans (hb.mono hB.size)
          clear hb
          go_wp2_with (fail)
          refine (Pick_any k S.length _ (by omega) (by omega)).mono ?_
          rintro e w6 ⟨rfl, rfl⟩
          obtain ⟨p, hp, hpl⟩ : ∃ p : Nat, k % (S.length : Int) = p ∧ p < S.length := by
            have g0 := Int.emod_nonneg k (b := (S.length : Int)) (by omega)
            have g1 := Int.emod_lt_of_pos k (b := (S.length : Int)) (by omega)
            exact ⟨(k % (S.length : Int)).toNat, by omega, by omega⟩
          rw [hp]
          have HP := Lib.hid hp
          clear hp
          obtain ⟨c, hcS⟩ : ∃ c, S[p] = c := ⟨_, rfl⟩
          have hidx := fun w' => run_index_at (P := Tryz.prog) w' 9 (str S) (p : Int) p Tryz.underlying9 (by rw [eS]; exact hpl) rfl
          have hbe : (str S)[p]'(by rw [eS]; exact hpl) = c := hcS
          rw [hbe] at hidx
          obtain ⟨X, hX⟩ : ∃ X, X = c ^^^ by_ := ⟨_, rfl⟩
          have hXw : bits .xor .u8 (c.toNat : Int) (by_.toNat : Int) = (X.toNat : Int) := by
            rw [u8_xor_nat _ _ c.toNat_lt by_.toNat_lt, hX, UInt8.toNat_xor]
          have hset : S.set p X = (S.take p ++ [X]) ++ S.drop (p + 1) := by rw [List.set_eq_take_append_cons_drop, if_pos hpl]; simp
          have x1 : (str S).extract 0 p = str (S.take p) := by rw [str_extract]; simp
          have x2 : (str S).extract (p + 1) S.length = str (S.drop (p + 1)) := str_extract_to S _
          have d1 := add_run (S.take p) [X] (by simp; omega)
          have d2 := add_run (S.take p ++ [X]) (S.drop (p + 1)) (by simp; omega)
          rw [← hset] at d2
          have v1 := conv_one X
          have v2 := conv_one' X
          have HBE := Lib.hid hcS
          have HX := Lib.hid hX
          have HSET := Lib.hid hset
          clear hbe hcS hX hset
          have b1 : IntKind.i64.wrap ((p : Int) + 1) = (p : Int) + 1 := IntWalk.i64_in _ (by omega)
          have b2 : (0 : Int) ≤ (p : Int) + 1 := by omega
          have b3 : ((p : Int) + 1).toNat = p + 1 := by omega
          have b4 : (p : Int) + 1 ≤ S.length := by omega
          have y1 := slice_pre S p (by omega)
          go_upto_region 13 with (fail)
          go_cut [12] (fun s12 wx => s12 = strV (S.set p X) ∧ Below w.heap.size w wx)
          case first =>
            go_region_with (fail)
            all_goals
              go_wp2_with (fail)
              go_meet
              exact ⟨rfl, (hB.alloc hB.size _).drew⟩
          case rest =>
            obtain ⟨rfl, hB2⟩ := hcut
            clear d1 d2 v1 v2 hidx y1 x1 x2 b1 b2 b3 b4 hB hbel
            by_cases hz : by_ = 0
            · have hz2 : ((by_.toNat : Int) == 0) = true := by subst hz; rfl
              have hxc : S.set p X = S := by
                have : X = S[p] := by rw [HX.out, hz, HBE.out]; simp
                rw [this, List.set_getElem_self]
              rw [hxc]
              have heq : ((str S).toList == (str S).toList) = true := by simp
              clear hz hxc
              go_wp2_with (fail)
              refine (Unpack_any S _ (by omega)).mono ?_
              rintro e w7 ⟨vb, rfl, hvb, hb, _⟩
              rw [HUP.out] at hvb ⊢
              rw [show errV (l, 0).2 = .nilIface from rfl]
              replace hB2 := hB2.trans (hb.mono hB2.size)
              clear hb
              have HVB := Lib.hid (PairsAt.own hvb)
              clear hvb
              go_wp2_with (fail)
              refine (Pack_any l vb _ HVB.out hok hn).mono ?_
              rintro e w8 ⟨rfl, hb⟩
              rw [HPA.out]
              replace hB2 := hB2.trans (hb.mono hB2.size)
              clear hb
              go_wp2_with (fail)
              refine (works_any _).mono ?_
              rintro e w9 ⟨rfl, hb⟩
              replace hB2 := hB2.trans (hb.mono hB2.size)
              go_wp2
              go_ret
              exact ⟨rfl, hB2⟩
            · have hz2 : ((by_.toNat : Int) == 0) = false := by
                have : by_.toNat ≠ 0 := fun e => hz (UInt8.toNat_inj.1 e)
                simp; omega
              have hz3 : ((by_.toNat : Int) != 0) = true := by
                have : by_.toNat ≠ 0 := fun e => hz (UInt8.toNat_inj.1 e)
                simp; omega
              have hne : X ≠ S[p] := by
                rw [HX.out, HBE.out]
                intro e
                have h := congrArg UInt8.toNat e
                rw [UInt8.toNat_xor] at h
                have h2 : by_.toNat = 0 := by
                  have : c.toNat ^^^ by_.toNat = c.toNat ^^^ 0 := by rw [h, Nat.xor_zero]
                  exact xor_cancelL this
                exact hz (UInt8.toNat_inj.1 h2)
              have hbad := HT.out p X hpl hne
              have hlen : (S.set p X).length = S.length := by simp
              generalize S.set p X = T at *
              have HBAD := Lib.hid hbad
              have HLEN := Lib.hid hlen
              clear hbad hlen hne hz
              go_wp2_with (fail)
              refine (Unpack_any T _ (by rw [HLEN.out]; omega)).mono ?_
              rintro e w7 ⟨vb, rfl, _, hb, hnil⟩
              rw [HBAD.out] at hnil ⊢
              obtain rfl := hnil rfl
              replace hB2 := hB2.trans (hb.mono hB2.size)
              clear hb
              rw [show errV (([] : List PairL), 7).2 = .iface 90 (.int .i64 7) from rfl]
              go_wp2_with (fail)
              refine (Num_errno 7 _ (by omega) (by omega)).mono ?_
              rintro e w8 ⟨rfl, hb⟩
              replace hB2 := hB2.trans (hb.mono hB2.size)
              clear hb
              go_wp2_with (fail)
              refine (works_any _).mono ?_
              rintro e w9 ⟨rfl, hb⟩
              replace hB2 := hB2.trans (hb.mono hB2.size)
              go_wp2
              go_ret
              exact ⟨rfl, hB2⟩
  · have hd : decide (l.length + sizeL l ≤ 65536) = false := by simpa using hfew
    have HD := Lib.hid hd
    have HL := Lib.hid hl
    clear hd hl
    subst hv
    go_enter Tryz.func30, Tryz.ntmps30
    go_wp2_with (fail)
    refine (few_any l _ _ HL.out hok hn).mono ?_
    rintro e w1 ⟨rfl, hb1⟩
    rw [HD.out]
    go_wp2
    go_ret
    exact ⟨rfl, hb1⟩
end Go.Proofs.YtifdibkpaeocfaaGreatDoor
