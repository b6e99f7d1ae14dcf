/- The document's disk: the walk of the power's failure. -/
import Derived.Test.YtfgpigblnkanpaaGreatDoorGH
import Derived.StillTailTactics
namespace Go.Proofs.YtfgpigblnkanpaaGreatDoor
open Go.RowKit Go.Maps Go.Shelf
set_option linter.unusedVariables false

set_option maxHeartbeats 4000000 in
set_option maxRecDepth 100000 in
theorem rFail_any (w : World) (g : Nat) (fv nv sv pv kv av : Value) (d : Dk) (keep : List Int) (N : Nat) (h : RefIn w g fv nv sv pv kv d) (hok : DkOk d) (hbd : DkB d N) (hN : N ≤ 1073741824) (hi : IntsAt w av keep) (hkl : keep.length ≤ 4294967296) (ha : ∀ j, usesOf av keep = some j → j ≠ g ∧ fv.ownBlock ≠ some j ∧ j < w.heap.size) :
    Calls Tryz.prog 123 #[.pointer (some ⟨g, 0, none⟩), av] w (RFailPost w g fv sv (dfail d keep)) := by
  have hS0 : Fail1 w g fv nv sv pv kv d keep 0 w := ⟨⟨sv, d.safe, h, rfl, hok.safe, by omega, hok.safeIn, fun b hb => Or.inr hb⟩, Nat.le_refl _, ⟨rfl, rfl, rfl⟩, fun j _ _ => rfl⟩
  have H0 := Lib.hid hS0
  have HI := Lib.hid hi
  have HA := Lib.hid ha
  have HOK := Lib.hid hok
  obtain ⟨ka, kc, rfl⟩ := hi.len
  obtain ⟨pa, pc, hpv⟩ := h.pvShape
  have hpl : d.pend.length ≤ 1073741824 := by have := hbd.safe; omega
  have hsl : d.safe.length + d.pend.length ≤ 1073741824 := by have := hbd.safe; omega
  have hfl : d.files.length ≤ 1073741824 := by have := hbd.files; omega
  clear h hi ha hS0 hok
  subst hpv
  go_enter Tryz.func123, Tryz.ntmps123
  go_wp2_with (fail)
  go_loopw [4, 5] (fun kv0 iv wr => ∃ k : Nat, kv0 = .int .i64 k ∧ iv = .int .i64 k ∧ k ≤ d.pend.length ∧ Hid (Fail1 w g fv nv sv (.slice pa d.pend.length pc) kv d keep k wr)) (fun _ iv _ => d.pend.length - (intOf iv).toNat)
  case atStart => exact ⟨0, rfl, rfl, Nat.zero_le _, H0.out⟩
  case round =>
    obtain ⟨k, rfl, rfl, hk, HF⟩ := hrel
    obtain ⟨sv', t, hr, hdp, hrise, htl, hin, hsv⟩ := HF.out.ex
    obtain ⟨c0, c1, c2, c3, c4, c5, c6, c7⟩ := hr.cells
    have HI2 : Hid (IntsAt wr (.slice ka keep.length kc) keep) := HI.out.same fun j hj => HF.out.block j (HA.out j hj).2.2 (HA.out j hj).1
    by_cases hlt : k < d.pend.length
    · obtain ⟨p, hp⟩ : ∃ p, d.pend[k]? = some p := ⟨_, List.getElem?_eq_getElem hlt⟩
      have ik0 : (0 : Int) ≤ (k : Int) := by omega
      have ik1 : (k : Int) < (d.pend.length : Int) := by omega
      by_cases hkk : k < keep.length
      · obtain ⟨x, hx⟩ : ∃ x, keep[k]? = some x := ⟨_, List.getElem?_eq_getElem hkk⟩
        have hka := keepAt_some hx
        obtain ⟨kb, koff, kcap, hsl2, hcell⟩ := HI2.out.at hx
        simp only [Value.slice.injEq] at hsl2
        obtain ⟨rfl, -, rfl⟩ := hsl2
        have ik2 : (k : Int) < (keep.length : Int) := by omega
        by_cases hbit : x % 2 = 1
        · have hb1 := bit_yes hbit
          rw [← hka] at hbit
          obtain ⟨b, cap, hpe, hpc⟩ := hr.pendAt hp
          simp only [Value.slice.injEq] at hpe
          obtain ⟨rfl, -, rfl⟩ := hpe
          obtain ⟨a0, a1, a2, a3, hoc⟩ := opCells_four p
          rw [hoc] at hpc
          have p0 := hpc 0 a0 rfl
          have p1 := hpc 1 a1 rfl
          have p2 := hpc 2 a2 rfl
          have p3 := hpc 3 a3 rfl
          rw [Nat.add_zero] at p0
          have hgl := hr.blk.lt
          have HD := Lib.hid fun W (hW : Below wr.heap.size wr W) => rDone_any W sv' t p (hr.safe.below hW) hrise (by have := hsl; omega) (by cases p with | cr m f => exact Nat.le_trans (Nat.le_of_lt (HOK.out.pendIn m f (List.mem_of_getElem? hp))) (by omega) | rn o m => trivial | rm m => trivial) (fun x hx => by have := hin x hx; omega)
          rw [hoc] at HD
          have HACT := Lib.hid fun v' w2 (hT : TabAt w2 v' (tdone t p)) hv hbl => HF.out.act HOK.out hr hdp hrise htl hin hsv hp hbit (v' := v') (w2 := w2) hT hv hbl
          have HRB := Lib.hid hr.blk
          clear hr hdp hrise htl hin hsv hp hbit hka hx hpc hoc HI2
          go_upto_region 5 with (fail)
          go_region_with (first
            | (go_at_call 122; refine (HD.out _ (Below.refl _ _).drew).mono ?_; rintro e w2 ⟨v', rfl, hT, hv, hbl⟩; have hfr2 := (HRB.out.below (below_undrew hbl) hgl).free 4; have e4 := (HRB.out.below (below_undrew hbl) hgl).cell 4; simp only [List.getElem?_cons_zero, List.getElem?_cons_succ] at e4; have HA2 := Lib.hid (HACT.out v' w2 hT hv (below_undrew hbl)); obtain ⟨va, vc, rfl, -⟩ := hT; clear hv hbl))
          all_goals
            go_wp2
            go_roundw
            case rel => exact ⟨k + 1, by go_num, by go_num, by omega, HA2.out⟩
            case measure => simp [intOf]; omega
        · have hb1 := bit_no hbit
          rw [← hka] at hbit
          have HSK := Lib.hid (HF.out.skip hp hbit)
          clear hr hdp hrise htl hin hsv hp hbit hka hx HI2
          go_wp2
          go_roundw
          case rel => exact ⟨k + 1, by go_num, by go_num, by omega, HSK.out⟩
          case measure => simp [intOf]; omega
      · have ik2 : ¬ (k : Int) < (keep.length : Int) := by omega
        have HSK := Lib.hid (HF.out.skip hp (by rw [keepAt_none hkk]; omega))
        clear hr hdp hrise htl hin hsv hp hkk HI2
        go_wp2
        go_roundw
        case rel => exact ⟨k + 1, by go_num, by go_num, by omega, HSK.out⟩
        case measure => simp [intOf]; omega
    · obtain rfl : k = d.pend.length := by omega
      rw [List.drop_length, dpend] at hdp
      have HR := Lib.hid hr
      have hSv := hr.safe
      obtain ⟨sa, sc, rfl, -⟩ := hSv
      have HT0 := Lib.hid hdp
      clear hr hlt hk hdp
      have hrise2 := hrise
      have hTin := Lib.hid hin
      have hTl : t.length ≤ 1073741824 := by omega
      have HF1 := Lib.hid HF.out
      have hFl : ∀ f ∈ d.files, f.safe ≤ f.data.length ∧ f.data.length ≤ 268435456 := fun f hf => ⟨HOK.out.safeLe f hf, Nat.le_trans (hbd.data f hf) hbd.room⟩
      have hS2 : Fail2 w g fv nv (.slice sa t.length sc) (.slice pa d.pend.length pc) kv d keep t 0 wr := ⟨⟨d.files, HR.out, rfl, rfl, hFl⟩, HF.out.size, HF.out.os, fun j hj hjg _ => HF.out.block j hj hjg⟩
      have H2 := Lib.hid hS2
      obtain ⟨wA, hwA⟩ : ∃ wA : World, wA = wr := ⟨_, rfl⟩
      have HSV : Hid (∀ b, (Value.slice sa t.length sc).ownBlock = some b → (w.heap.size ≤ b ∧ b < wA.heap.size) ∨ sv.ownBlock = some b) := by rw [hwA]; exact hsv
      have hnl : d.now.length ≤ 1073741824 := by have := hbd.now; omega
      have hpk : (0 : Int) ≤ (d.pend.length : Int) := by omega
      generalize hPN : d.pend.length = pn at *
      clear hrise htl hin hsv hrise2 hFl hS2 HF hbd
      rw [← hwA] at *
      clear hwA
      go_wp2_with (fail)
      go_loopw [4, 6] (fun kv0 iv wr => ∃ k : Nat, kv0 = .int .i64 ((pn + k : Nat) : Int) ∧ iv = .int .i64 k ∧ k ≤ t.length ∧ Hid (Fail2 w g fv nv (.slice sa t.length sc) (.slice pa pn pc) kv d keep t k wr) ∧ Hid (wA.heap.size ≤ wr.heap.size)) (fun _ iv _ => t.length - (intOf iv).toNat)
      case atStart => exact ⟨0, rfl, rfl, Nat.zero_le _, H2.out, Nat.le_refl _⟩
      case round =>
        obtain ⟨k, rfl, rfl, hk, HG, HG2⟩ := hrel
        obtain ⟨fs, hr2, hd2, hfl2, hf2⟩ := HG.out.ex
        obtain ⟨e0, e1, e2, e3, e4, e5, e6, e7⟩ := hr2.cells
        by_cases hlt : k < t.length
        · obtain ⟨x, hx⟩ : ∃ x, t[k]? = some x := ⟨_, List.getElem?_eq_getElem hlt⟩
          have ik0 : (0 : Int) ≤ (k : Int) := by omega
          have ik1 : (k : Int) < (t.length : Int) := by omega
          have hxi : x.2 < fs.length := by rw [hfl2]; exact hTin.out x (List.mem_of_getElem? hx)
          obtain ⟨_, _, hse, hsx⟩ := hr2.safe
          simp only [Value.slice.injEq] at hse
          obtain ⟨rfl, -, rfl⟩ := hse
          obtain ⟨sb, soff, rfl, s0, s1⟩ := hsx k x hx
          clear hsx
          by_cases hkk : pn + k < keep.length
          · obtain ⟨z, hz⟩ : ∃ z, keep[pn + k]? = some z := ⟨_, List.getElem?_eq_getElem hkk⟩
            have hka := keepAt_some hz
            have HI2 : Hid (IntsAt wr (.slice ka keep.length kc) keep) := HI.out.same fun j hj => HG.out.block j (HA.out j hj).2.2 (HA.out j hj).1 (HA.out j hj).2.1
            obtain ⟨kb, koff, kcap, hsl2, hcell⟩ := HI2.out.at hz
            simp only [Value.slice.injEq] at hsl2
            obtain ⟨rfl, -, rfl⟩ := hsl2
            have ip0 : (0 : Int) ≤ ((pn + k : Nat) : Int) := by omega
            have ip1 : ((pn + k : Nat) : Int) < (keep.length : Int) := by omega
            have hgl := hr2.blk.lt
            obtain ⟨b, cap, hfv, f0, f1⟩ := hr2.file hxi
            simp only at hfv
            subst hfv
            obtain ⟨y, hy⟩ : ∃ y, y = dleft (fat fs x.2) (keepAt keep (pn + k)) := ⟨_, rfl⟩
            have hff := hf2 _ (fat_mem hxi)
            have hys := dleft_short (fat fs x.2) (keepAt keep (pn + k)) hff.1
            rw [← hy] at hys
            have HL := Lib.hid fun W => rLeft_any W (fat fs x.2) (keepAt keep (pn + k)) hff.1 (by omega)
            rw [← hy] at HL
            have HACT := Lib.hid fun w2 (hbl : Below wr.heap.size wr w2) => HG.out.act hr2 hd2 hfl2 hf2 hx hxi (w2 := w2) rfl hbl
            rw [hPN, ← hy] at HACT
            have HR2 := Lib.hid hr2
            have hszy := str_size y
            have hyl : y.length ≤ 268435456 := by omega
            have ix0 : (0 : Int) ≤ (x.2 : Int) := by omega
            have ix1 : (x.2 : Int) < (fs.length : Int) := by omega
            rw [hka] at HL
            clear hz hka HI2
            clear hr2 hd2 hfl2 hf2 hx hff hys hy
            go_upto_region 14 with (fail)
            generalize hWW : wr = W at *
            refine wp_region_still_tail 15 (by kernel_rfl) (by kernel_rfl) ?_
            simp only [List.take_succ_cons, List.take_zero, List.drop_succ_cons, List.drop_zero]
            repeat still_step
            refine wpStill_nil ?_
            go_wp2_with (fail)
            refine (HL.out _).mono ?_
            rintro e w2 ⟨rfl, hbl⟩
            have hR3 := HR2.out.below (below_undrew hbl)
            have HACT3 := Lib.hid (HACT.out w2 (below_undrew hbl))
            have m1 := ((below_undrew hbl).cell (World.block_lt_of_cell? W _ s1)).trans s1
            obtain ⟨-, -, m2, -, m4, -, -, -⟩ := hR3.cells
            obtain ⟨b', _, hfe, m8, m9⟩ := hR3.file hxi
            have hbb : b' = b := by have hq := congrArg Value.ownBlock hfe; simpa [Value.ownBlock, eq_comm] using hq
            subst hbb
            have hfz := fun j => hR3.files.frozenAt j
            simp only at m2 m4 m8 m9
            have HSZ : Hid (W.heap.size ≤ w2.heap.size) := (below_undrew hbl).size
            clear hfe hR3 hbl HACT HL HR2
            go_upto_region 15 with (fail)
            refine wp_region_still_tail 17 (by kernel_rfl) (by kernel_rfl) ?_
            simp only [List.take_succ_cons, List.take_zero, List.drop_succ_cons, List.drop_zero]
            repeat still_step
            refine wpStill_nil ?_
            have HE := Lib.hid HACT3.out.drew
            have HE2 : Hid (wA.heap.size ≤ w2.heap.size) := Nat.le_trans HG2.out HSZ.out
            clear HACT3
            go_wp2
            go_roundw
            case rel => exact ⟨k + 1, int_eq (by omega), by go_num, by omega, HE.out, (show wA.heap.size ≤ _ from by simpa [World.setCell] using HE2.out)⟩
            case measure => simp [intOf]; omega
          · have ip1 : ¬ ((pn + k : Nat) : Int) < (keep.length : Int) := by omega
            have hgl := hr2.blk.lt
            obtain ⟨b, cap, hfv, f0, f1⟩ := hr2.file hxi
            simp only at hfv
            subst hfv
            obtain ⟨y, hy⟩ : ∃ y, y = dleft (fat fs x.2) (keepAt keep (pn + k)) := ⟨_, rfl⟩
            have hff := hf2 _ (fat_mem hxi)
            have hys := dleft_short (fat fs x.2) (keepAt keep (pn + k)) hff.1
            rw [← hy] at hys
            have HL := Lib.hid fun W => rLeft_any W (fat fs x.2) (keepAt keep (pn + k)) hff.1 (by omega)
            rw [← hy] at HL
            have HACT := Lib.hid fun w2 (hbl : Below wr.heap.size wr w2) => HG.out.act hr2 hd2 hfl2 hf2 hx hxi (w2 := w2) rfl hbl
            rw [hPN, ← hy] at HACT
            have HR2 := Lib.hid hr2
            have hszy := str_size y
            have hyl : y.length ≤ 268435456 := by omega
            have ix0 : (0 : Int) ≤ (x.2 : Int) := by omega
            have ix1 : (x.2 : Int) < (fs.length : Int) := by omega
            rw [keepAt_none hkk] at HL
            clear hkk
            clear hr2 hd2 hfl2 hf2 hx hff hys hy
            go_upto_region 14 with (fail)
            generalize hWW : wr = W at *
            refine wp_region_still_tail 15 (by kernel_rfl) (by kernel_rfl) ?_
            simp only [List.take_succ_cons, List.take_zero, List.drop_succ_cons, List.drop_zero]
            repeat still_step
            refine wpStill_nil ?_
            go_wp2_with (fail)
            refine (HL.out _).mono ?_
            rintro e w2 ⟨rfl, hbl⟩
            have hR3 := HR2.out.below (below_undrew hbl)
            have HACT3 := Lib.hid (HACT.out w2 (below_undrew hbl))
            have m1 := ((below_undrew hbl).cell (World.block_lt_of_cell? W _ s1)).trans s1
            obtain ⟨-, -, m2, -, m4, -, -, -⟩ := hR3.cells
            obtain ⟨b', _, hfe, m8, m9⟩ := hR3.file hxi
            have hbb : b' = b := by have hq := congrArg Value.ownBlock hfe; simpa [Value.ownBlock, eq_comm] using hq
            subst hbb
            have hfz := fun j => hR3.files.frozenAt j
            simp only at m2 m4 m8 m9
            have HSZ : Hid (W.heap.size ≤ w2.heap.size) := (below_undrew hbl).size
            clear hfe hR3 hbl HACT HL HR2
            go_upto_region 15 with (fail)
            refine wp_region_still_tail 17 (by kernel_rfl) (by kernel_rfl) ?_
            simp only [List.take_succ_cons, List.take_zero, List.drop_succ_cons, List.drop_zero]
            repeat still_step
            refine wpStill_nil ?_
            have HE := Lib.hid HACT3.out.drew
            have HE2 : Hid (wA.heap.size ≤ w2.heap.size) := Nat.le_trans HG2.out HSZ.out
            clear HACT3
            go_wp2
            go_roundw
            case rel => exact ⟨k + 1, int_eq (by omega), by go_num, by omega, HE.out, (show wA.heap.size ≤ _ from by simpa [World.setCell] using HE2.out)⟩
            case measure => simp [intOf]; omega
        · obtain rfl : k = t.length := by omega
          have hFIN := Fail2.fin (sv0 := sv) HT0.out HG.out (fun b hb => (HSV.out b hb).imp (fun h4 => ⟨h4.1, Nat.lt_of_lt_of_le h4.2 HG2.out⟩) id)
          have HFIN := Lib.hid hFIN
          unfold failWorld at HFIN
          have f3 := hr2.blk.free 3
          have f5 := hr2.blk.free 5
          have f0 := hr2.blk.free 0
          have f6 := hr2.blk.free 6
          have f7 := hr2.blk.free 7
          clear hFIN hr2 hd2 hf2 hfl2 hlt hk
          go_wp2
          go_end0
          exact HFIN.out
end Go.Proofs.YtfgpigblnkanpaaGreatDoor
