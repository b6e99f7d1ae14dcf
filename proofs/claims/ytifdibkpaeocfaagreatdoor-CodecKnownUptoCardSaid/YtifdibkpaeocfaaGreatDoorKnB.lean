/- The walk of CodecKnown's packs: some packs, and each byte of them spoilt. The walk of the statement CodecKnown. -/
import Derived.Test.YtifdibkpaeocfaaGreatDoorKnA
import Derived.Test.YtifdibkpaeocfaaGreatDoorPacks
import Derived.Test.YtifdibkpaeocfaaGreatDoorPairs
import Derived.Test.YtifdibkpaeocfaaGreatDoorUnpacks
import Derived.Deep.RegionHeld3
namespace Go.Proofs.YtifdibkpaeocfaaGreatDoor
open Go.RowKit
set_option linter.unusedSimpArgs false

theorem someL_small : ∀ l ∈ someL, l.length ≤ 3 ∧ sizeL l ≤ 10 := by decide
theorem ans_facts {l : List PairL} (h : l.length ≤ 3 ∧ sizeL l ≤ 10) : ∃ (s : List UInt8) (no : Nat) (at_ : Int), Hid (refPackAns l = .tuple #[strV s, .int .i64 no, .int .i64 at_]) ∧ (no = 0 → 5 ≤ s.length ∧ s.length ≤ 300) := by
  cases hg : packGo 0 [] (uintL l.length) l with
  | inr i => exact ⟨[], 1, (i : Int), refPackAns_fault (by omega) hg, fun e => by omega⟩
  | inl out =>
    refine ⟨out ++ crcTail out, 0, -1, refPackAns_out (by omega) hg, fun _ => ?_⟩
    have := packed_len (by omega) (by omega) hg
    rw [List.length_append]
    show 5 ≤ out.length + 4 ∧ out.length + 4 ≤ 300
    omega
def elevenL : List (List UInt8) := [[128, 0], [1, 1, 0, 0], [1, 0, 2, 97], [2, 0, 1, 97, 0, 0, 1, 97, 0], [2, 0, 1, 97, 0, 0, 2, 97, 98, 0], [2, 0, 1, 97, 0, 1, 1, 98, 0], [2, 0, 2, 97, 98, 0, 1, 2, 98, 99, 0], [2, 0, 1, 98, 0, 0, 1, 97, 0], [2, 0, 1, 98, 0, 2, 128, 0], [2, 0, 1, 98, 0, 1, 0, 0], [1, 0, 1, 97, 5]]
theorem elevenL_small : ∀ l ∈ elevenL, l.length ≤ 20 := by decide
theorem eleven_cell {w : World} {b : Nat} {t : TypeId} (h : Blk w b (elevenL.map fun l => strV l) t) {j : Nat} (hj : j < 11) : ∃ l : List UInt8, w.cell? ⟨b, j, none⟩ = some (strV l) ∧ l.length ≤ 20 := by
  have hl : j < elevenL.length := hj
  refine ⟨elevenL[j], ?_, elevenL_small _ (List.getElem_mem hl)⟩
  rw [h.cell, List.getElem?_map, List.getElem?_eq_getElem hl]
  rfl
def KnS (w w' : World) : Prop := Below w.heap.size w w'
theorem KnS.refl (w : World) : KnS w w := Below.refl _ _
theorem KnS.step {w w1 w2 : World} (h : KnS w w1) (hb : Below w1.heap.size w1 w2) : KnS w w2 := Below.trans h (hb.mono (Below.size h))
theorem KnS.err {w w1 : World} (h : KnS w w1) (hg : ErrorLaid w) : ErrorLaid w1 := hg.below h
theorem KnS.drew {w w1 : World} (h : KnS w w1) : KnS w w1.drew := Below.drew h
def nineV (X : Int) : List Value := [.int .u8 0, .int .u8 1, .int .u8 2, .int .u8 3, .int .u8 127, .int .u8 128, .int .u8 255, .int .u8 97, .int .u8 X]
def KnT (w1 : World) (g9 : Nat) (X : Int) (w : World) : Prop := KnS w1 w ∧ Blk w g9 (nineV X) 5
theorem KnT.step {w1 w2 w3 : World} {g9 : Nat} {X : Int} (h : KnT w1 g9 X w2) (hb : Below w2.heap.size w2 w3) : KnT w1 g9 X w3 := ⟨h.1.step hb, h.2.below hb h.2.lt⟩
theorem KnT.drew {w1 w2 : World} {g9 : Nat} {X : Int} (h : KnT w1 g9 X w2) : KnT w1 g9 X w2.drew := ⟨h.1.drew, Blk.drew h.2⟩
theorem KnT.err {w1 w2 : World} {g9 : Nat} {X : Int} (h : KnT w1 g9 X w2) (hg : ErrorLaid w1) : ErrorLaid w2 := h.1.err hg
theorem slice_midI (l : List UInt8) (p q : Nat) (x y : Int) (hx : x = p) (hy : y = q) (hpq : p ≤ q) (h : q ≤ l.length) (w' : World) : (Instr.slice 9 (.string (str l)) (some (.int .i64 x)) (some (.int .i64 y)) none).run Tryz.prog w' = .ok (strV ((l.take q).drop p)) w' := by
  subst hx hy
  have e := str_size l
  have hx : (str l).extract p q = str ((l.take q).drop p) := str_extract l p q
  have h1 : (p : Int) ≤ q := by omega
  have h0 : (0 : Int) ≤ p := by omega
  have h2 : (q : Int) ≤ l.length := by omega
  go_simp
theorem nine_cell {w : World} {b : Nat} {t : TypeId} {X : Int} (hX : 0 ≤ X ∧ X < 256) (h : Blk w b (nineV X) t) {j : Nat} (hj : j < 9) : ∃ x : UInt8, w.cell? ⟨b, j, none⟩ = some (.int .u8 x.toNat) := by
  rw [h.cell]
  match j, hj with
  | 0, _ => exact ⟨0, rfl⟩
  | 1, _ => exact ⟨1, rfl⟩
  | 2, _ => exact ⟨2, rfl⟩
  | 3, _ => exact ⟨3, rfl⟩
  | 4, _ => exact ⟨127, rfl⟩
  | 5, _ => exact ⟨128, rfl⟩
  | 6, _ => exact ⟨255, rfl⟩
  | 7, _ => exact ⟨97, rfl⟩
  | 8, _ =>
    refine ⟨X.toNat.toUInt8, ?_⟩
    rw [toUInt8_toNat_lt (by omega)]
    have e : ((X.toNat : Nat) : Int) = X := by omega
    rw [e]
    rfl
set_option maxHeartbeats 10000000 in
set_option maxRecDepth 100000 in
theorem packs_any (w : World) (hg : ErrorLaid w) : Calls Tryz.prog 10 #[] w fun e w' => e = .returned (.bool true) ∧ Below w.heap.size w w' := by
  go_enter Tryz.func10, Tryz.ntmps10
  go_wp2_with (fail)
  refine (some_any _).mono ?_
  rintro e w1 ⟨G, rfl, hB1, hS⟩
  have HS := Lib.hid hS
  have hg1 := hg.below hB1
  clear hS hg
  go_wp2_with (fail)
  go_loopw [15] (fun jv wr => ∃ j : Nat, jv = .int .i64 j ∧ j ≤ 9 ∧ KnS w1 wr) (fun jv _ => 9 - (intOf jv).toNat)
  case atStart => exact ⟨0, rfl, by omega, KnS.refl _⟩
  case round =>
    obtain ⟨j, rfl, hj, hk⟩ := hrel
    by_cases hlt : j < 9
    · obtain ⟨l, hl⟩ : ∃ l, someL[j]? = some l := ⟨_, List.getElem?_eq_getElem hlt⟩
      obtain ⟨v, hc, hat⟩ := HS.out j l hl
      have hsm := someL_small l (List.mem_of_getElem? hl)
      have hok := PairsOk.of (l := l) (by omega)
      have hc2 := (Below.cell hk (p := ⟨G, j, none⟩) (World.block_lt_of_cell? w1 _ hc)).trans hc
      have hat2 := hat.below hk
      obtain ⟨a, cap, rfl⟩ := PairsAt.size hat
      obtain ⟨s, no, at_, HANS, hno⟩ := ans_facts hsm
      have HAT := Lib.hid hat
      have a0 : (0 : Int) ≤ j := by omega
      have a1 : (j : Int) < 9 := by omega
      clear hl hc hat
      go_wp2_with (fail)
      have hn3 : l.length * 32 ≤ 140737488351232 := by omega
      refine (CodecPacks_any l _ _ hat2 hok hn3 (hg1.below hk)).mono ?_
      rintro e y1 ⟨rfl, hb⟩
      replace hk := hk.step hb
      clear hb hat2
      go_wp2_with (fail)
      refine (CodecPairs_any l _ 1 1 _ (HAT.out.below hk) hok hn3).mono ?_
      rintro e y2 ⟨rfl, hb⟩
      replace hk := hk.step hb
      clear hb
      go_wp2_with (fail)
      refine (refPack_any l _ _ (HAT.out.below hk) hok hn3).mono ?_
      rintro e y3 ⟨rfl, hb⟩
      rw [HANS.out]
      replace hk := hk.step hb
      clear hb
      have hdj : decide ((j : Int) < 9) = true := by simp; omega
      have HNO := Lib.hid hno
      have HSM := Lib.hid hsm
      clear hno hsm hc2
      by_cases hno0 : no = 0
      · subst hno0
        obtain ⟨s5, s300⟩ := HNO.out rfl
        have es := str_size s
        go_wp2_with (fail)
        go_loopw [6] (fun iv wr => ∃ i : Nat, iv = .int .i64 i ∧ i ≤ s.length ∧ KnS w1 wr) (fun iv _ => s.length - (intOf iv).toNat)
        case atStart => exact ⟨0, rfl, by omega, hk⟩
        case round =>
          clear hk
          obtain ⟨i, rfl, hi, hk⟩ := hrel
          by_cases hlt2 : i < s.length
          · have hs1 := slice_preI s i (i : Int) rfl (by omega)
            have hs2 := slice_sufI s (i + 1) ((i : Int) + 1) (by omega) (by omega)
            have hwi : IntKind.i64.wrap ((i : Int) + 1) = (i : Int) + 1 := IntWalk.i64_in _ (by omega)
            have hpl : (s.take i).length ≤ 300 := by rw [List.length_take]; omega
            have hql : (s.drop (i + 1)).length ≤ 300 := by rw [List.length_drop]; omega
            have hpq : (s.take i).length + (s.drop (i + 1)).length + 1 = s.length := by rw [List.length_take, List.length_drop]; omega
            have HPQ := Lib.hid hpq
            clear hpq
            generalize hp : s.take i = p at *
            generalize hq : s.drop (i + 1) = q at *
            have HP := Lib.hid hp
            have HQ := Lib.hid hq
            clear hp hq
            have hadd := add_run p q (by omega)
            have hlpq : (p ++ q).length ≤ 9223372036854775807 := by rw [List.length_append]; omega
            have hdi : decide ((i : Int) < s.length) = true := by simp; omega
            have a2 : (0 : Int) ≤ i := by omega
            have a3 : (i : Int) ≤ s.length := by omega
            go_wp2_with (fail)
            go_region_held3 (fun w' => KnS w1 w') (first | assumption | exact KnS.drew (by assumption) | exact KnS.step (by assumption) hb | go_keep) (first
              | (go_at_call 30; refine (CodecPairs_any l _ (i : Int) 128 _ (HAT.out.below (show KnS w1 _ by assumption)) hok hn3).mono ?_; rintro e y ⟨rfl, hb⟩)
              | (go_at_call 3; (with_reducible refine (CodecUnpacks_any _ _ (by first | assumption | omega) (KnS.err (by assumption) hg1)).mono ?_); rintro e y ⟨rfl, hb⟩)
              | (go_at_call 32; refine (CodecOnce_any p _ (by omega)).mono ?_; rintro e y ⟨rfl, hb⟩))
            have hky : KnS w1 y := by assumption
            clear hadd hlpq hk
            obtain ⟨x, HXE⟩ : ∃ x : UInt8, Hid (s[i]'hlt2 = x) := ⟨_, (rfl : s[i]'hlt2 = _)⟩
            have hix : ∀ w', (Instr.index 9 (.string (str s)) (.int .i64 (i : Int))).run Tryz.prog w' = .ok (.int .u8 x.toNat) w' := by
              intro w'
              rw [run_index_at w' 9 (str s) (i : Int) i Tryz.underlying9 (by rw [es]; exact hlt2) rfl]
              rw [← HXE.out]
              rfl
            obtain ⟨X, HXX⟩ : ∃ X : Int, Hid (((x.toNat : Int) + 1) % 256 = X) := ⟨_, (rfl : ((x.toNat : Int) + 1) % 256 = _)⟩
            have hX : 0 ≤ X ∧ X < 256 := by have := HXX.out; omega
            have hx255 : x.toNat < 256 := x.toNat_lt
            have HX9 := Lib.hid hX
            have hu8 : IntKind.u8.wrap ((x.toNat : Int) + 1) = X := by rw [IntKind.wrap_u8]; exact HXX.out
            have hmod := HXX.out
            clear hX
            go_wp2_with (fail)
            have hk9 : KnS w1 (y.alloc (.cells #[.int .u8 0, .int .u8 1, .int .u8 2, .int .u8 3, .int .u8 127, .int .u8 128, .int .u8 255, .int .u8 97, .int .u8 X] 5)) := hky.step ((Below.refl y.heap.size y).alloc (Nat.le_refl _) _)
            have hb9 : Blk (y.alloc (.cells #[.int .u8 0, .int .u8 1, .int .u8 2, .int .u8 3, .int .u8 127, .int .u8 128, .int .u8 255, .int .u8 97, .int .u8 X] 5)) y.heap.size (nineV X) 5 := Blk.new y (nineV X) 5
            generalize y.alloc (.cells #[.int .u8 0, .int .u8 1, .int .u8 2, .int .u8 3, .int .u8 127, .int .u8 128, .int .u8 255, .int .u8 97, .int .u8 X] 5) = y9 at *
            generalize y.heap.size = g9 at *
            clear hix hu8 hmod hky
            have hw4 : IntKind.i64.wrap ((s.length : Int) - 4) = (s.length : Int) - 4 := IntWalk.i64_in _ (by omega)
            have hs3 := slice_sufI s i (i : Int) rfl (by omega)
            have hq2l : (s.drop i).length ≤ 300 := by rw [List.length_drop]; omega
            generalize s.drop i = q2 at *
            go_loopw [77] (fun tv wr => ∃ t : Nat, tv = .int .i64 t ∧ t ≤ 9 ∧ Blk wr g9 (nineV X) 5 ∧ KnS w1 wr) (fun tv _ => 9 - (intOf tv).toNat)
            case atStart => exact ⟨0, rfl, by omega, hb9, hk9⟩
            case round =>
              clear hb9 hk9
              obtain ⟨t, rfl, ht, hb9, hk⟩ := hrel
              by_cases hlt3 : t < 9
              · obtain ⟨c, hc⟩ := nine_cell HX9.out hb9 hlt3
                have hgl := hb9.lt
                have hcv := conv_one c wr
                have ka := hk.step ((Below.refl wr.heap.size wr).alloc (Nat.le_refl _) (.cells #[.int .u8 c.toNat] 5))
                have ba := Blk.alloc hb9 (.cells #[.int .u8 c.toNat] 5)
                have add1 := add_run p [c] (by simp; omega)
                have hT1l : (p ++ [c]).length ≤ 301 := by simp; omega
                generalize hT1 : p ++ [c] = T1 at *
                have HT1 := Lib.hid hT1
                clear hT1
                have add2 := add_run T1 q (by omega)
                have hTl : (T1 ++ q).length = s.length := by
                  have h1 := HT1.out
                  have h2 := HPQ.out
                  rw [← h1]
                  simp only [List.length_append, List.length_cons, List.length_nil]
                  omega
                generalize T1 ++ q = T at *
                have eT := str_size T
                rw [hTl] at eT
                have HTL := Lib.hid hTl
                clear hTl
                have add3 := add_run T1 q2 (by omega)
                have hUl : (T1 ++ q2).length ≤ 700 := by rw [List.length_append]; omega
                generalize T1 ++ q2 = U at *
                have hTt : T.length ≤ 300 := by rw [HTL.out]; omega
                generalize hW4 : wr.alloc (.cells #[.int .u8 c.toNat] 5) = w4 at *
                go_wp2_with (fail)
                go_quiet (fail)
                have kb : KnS w1 (w4.drewN nq) := below_drewN ka nq
                have bb : Blk (w4.drewN nq) g9 (nineV X) 5 := Blk.drewN ba nq
                generalize w4.drewN nq = w5 at *
                have kt : KnT w1 g9 X w5 := ⟨kb, bb⟩
                clear kb bb
                clear hcv hs2 add2 ka ba hc hk hb9 hW4
                by_cases hg4 : (i : Int) < (s.length : Int) - 4
                · have hdg : decide ((i : Int) < (s.length : Int) - 4) = true := by simpa using hg4
                  have hs4 := slice_preI T (s.length - 4) ((s.length : Int) - 4) (by omega) (by rw [HTL.out]; omega)
                  have hs5 := slice_midI s i (s.length - 4) (i : Int) ((s.length : Int) - 4) rfl (by omega) (by omega) (by omega)
                  have hT4 : (T.take (s.length - 4)).length ≤ 300 := by rw [List.length_take, HTL.out]; omega
                  have hq3 : ((s.take (s.length - 4)).drop i).length ≤ 300 := by rw [List.length_drop, List.length_take]; omega
                  generalize T.take (s.length - 4) = T4 at *
                  generalize (s.take (s.length - 4)).drop i = q3 at *
                  have add4 := add_run T1 q3 (by omega)
                  have hV : (T1 ++ q3).length ≤ 700 := by rw [List.length_append]; omega
                  generalize T1 ++ q3 = V at *
                  go_wp2_with (fail)
                  go_region_held3 (fun w' => KnT w1 g9 X w') (first | assumption | exact KnT.drew (by assumption) | exact KnT.step (by assumption) hb | go_keep) (first
                    | (go_at_call 3; (with_reducible refine (CodecUnpacks_any _ _ (by first | assumption | omega) (KnT.err (by assumption) hg1)).mono ?_); rintro e y ⟨rfl, hb⟩))
                  have ktz : KnT w1 g9 X y := by assumption
                  go_wp2
                  go_roundw
                  case rel => exact ⟨t + 1, by go_num, by omega, ktz.2, ktz.1⟩
                  case measure => simp [intOf]; omega
                · have hdg : decide ((i : Int) < (s.length : Int) - 4) = false := by simpa using hg4
                  have hg5 : (s.length : Int) - 4 ≤ i := by omega
                  have HG4 := Lib.hid hg4
                  clear hg4
                  go_wp2_with (fail)
                  refine wp_region_held_drew (S := fun w' => KnT w1 g9 X w') (by kernel_rfl) (KnT.drew (by assumption)) (fun hHeld => ?_)
                  refine wpAnyH_take (i := 0) (v := ?v0) rfl (by kernel_rfl) (by kernel_rfl) (by kernel_rfl) (fun _ _ _ h => h) (Or.inl ⟨by rfl, ?hy0⟩) (by assumption) ?hr0
                  case hy0 => (intro w hSw; (try dsimp only at hSw); go_simp; try with_reducible rfl)
                  try simp only [Act.put, List.getElem_toArray, List.getElem_cons_zero, List.getElem_cons_succ, List.setIfInBounds_toArray, List.set_cons_zero, List.set_cons_succ]
                  refine wpAnyH_ready (rs := [1]) (by kernel_rfl) (by simp) ?_
                  refine AllReadyH.cons rfl (fun K hK => ?_) AllReadyH.nil
                  go_simp
                  go_at_call 3
                  (with_reducible refine (CodecUnpacks_any _ _ (by first | assumption | omega) (KnT.err (by assumption) hg1)).mono ?_)
                  rintro e z1 ⟨rfl, hb⟩
                  try go_wp2_with (fail)
                  refine hK.out _ _ (KnT.step (by assumption) hb) (fun hHeld2 => ?_)
                  clear hK K hHeld hb
                  have hHeld := hHeld2
                  clear hHeld2
                  try simp only [Act.put, List.getElem_toArray, List.getElem_cons_zero, List.getElem_cons_succ, List.setIfInBounds_toArray, List.set_cons_zero, List.set_cons_succ]
                  refine wpAnyH_take (i := 2) (v := ?v2) rfl (by kernel_rfl) (by kernel_rfl) (by kernel_rfl) (fun _ _ _ h => h) (Or.inl ⟨by rfl, ?hy2⟩) (by assumption) ?hr2
                  case hy2 => (intro w hSw; (try dsimp only at hSw); go_simp; try with_reducible rfl)
                  try simp only [Act.put, List.getElem_toArray, List.getElem_cons_zero, List.getElem_cons_succ, List.setIfInBounds_toArray, List.set_cons_zero, List.set_cons_succ]
                  refine wpAnyH_take (i := 3) (v := ?v3) rfl (by kernel_rfl) (by kernel_rfl) (by kernel_rfl) (fun _ _ _ h => h) (Or.inl ⟨by rfl, ?hy3⟩) (by assumption) ?hr3
                  case hy3 => (intro w hSw; (try dsimp only at hSw); go_simp; try with_reducible rfl)
                  try simp only [Act.put, List.getElem_toArray, List.getElem_cons_zero, List.getElem_cons_succ, List.setIfInBounds_toArray, List.set_cons_zero, List.set_cons_succ]
                  refine wpAnyH_take (i := 4) (v := ?v4) rfl (by kernel_rfl) (by kernel_rfl) (by kernel_rfl) (fun _ _ _ h => h) (Or.inl ⟨by rfl, ?hy4⟩) (by assumption) ?hr4
                  case hy4 => (intro w hSw; (try dsimp only at hSw); go_simp; try with_reducible rfl)
                  try simp only [Act.put, List.getElem_toArray, List.getElem_cons_zero, List.getElem_cons_succ, List.setIfInBounds_toArray, List.set_cons_zero, List.set_cons_succ]
                  refine wpAnyH_take (i := 5) (v := ?v5) rfl (by kernel_rfl) (by kernel_rfl) (by kernel_rfl) (fun _ _ _ h => h) (Or.inl ⟨by rfl, ?hy5⟩) (by assumption) ?hr5
                  case hy5 => (intro w hSw; (try dsimp only at hSw); go_simp; try with_reducible rfl)
                  try simp only [Act.put, List.getElem_toArray, List.getElem_cons_zero, List.getElem_cons_succ, List.setIfInBounds_toArray, List.set_cons_zero, List.set_cons_succ]
                  refine wpAnyH_take (i := 6) (v := ?v6) rfl (by kernel_rfl) (by kernel_rfl) (by kernel_rfl) (fun _ _ _ h => h) (Or.inl ⟨by rfl, ?hy6⟩) (by assumption) ?hr6
                  case hy6 => (intro w hSw; (try dsimp only at hSw); go_simp; try with_reducible rfl)
                  try simp only [Act.put, List.getElem_toArray, List.getElem_cons_zero, List.getElem_cons_succ, List.setIfInBounds_toArray, List.set_cons_zero, List.set_cons_succ]
                  refine wpAnyH_take (i := 7) (v := ?v7) rfl (by kernel_rfl) (by kernel_rfl) (by kernel_rfl) (fun _ _ _ h => h) (Or.inl ⟨by rfl, ?hy7⟩) (by assumption) ?hr7
                  case hy7 => (intro w hSw; (try dsimp only at hSw); go_simp; try with_reducible rfl)
                  try simp only [Act.put, List.getElem_toArray, List.getElem_cons_zero, List.getElem_cons_succ, List.setIfInBounds_toArray, List.set_cons_zero, List.set_cons_succ]
                  refine wpAnyH_take (i := 8) (v := ?v8) rfl (by kernel_rfl) (by kernel_rfl) (by kernel_rfl) (fun _ _ _ h => h) (Or.inl ⟨by rfl, ?hy8⟩) (by assumption) ?hr8
                  case hy8 => (intro w hSw; (try dsimp only at hSw); go_simp; try with_reducible rfl)
                  try simp only [Act.put, List.getElem_toArray, List.getElem_cons_zero, List.getElem_cons_succ, List.setIfInBounds_toArray, List.set_cons_zero, List.set_cons_succ]
                  refine wpAnyH_take (i := 9) (v := ?v9) rfl (by kernel_rfl) (by kernel_rfl) (by kernel_rfl) (fun _ _ _ h => h) (Or.inl ⟨by rfl, ?hy9⟩) (by assumption) ?hr9
                  case hy9 => (intro w hSw; (try dsimp only at hSw); go_simp; try with_reducible rfl)
                  try simp only [Act.put, List.getElem_toArray, List.getElem_cons_zero, List.getElem_cons_succ, List.setIfInBounds_toArray, List.set_cons_zero, List.set_cons_succ]
                  refine wpAnyH_take (i := 10) (v := ?v10) rfl (by kernel_rfl) (by kernel_rfl) (by kernel_rfl) (fun _ _ _ h => h) (Or.inl ⟨by rfl, ?hy10⟩) (by assumption) ?hr10
                  case hy10 => (intro w hSw; (try dsimp only at hSw); go_simp; try with_reducible rfl)
                  try simp only [Act.put, List.getElem_toArray, List.getElem_cons_zero, List.getElem_cons_succ, List.setIfInBounds_toArray, List.set_cons_zero, List.set_cons_succ]
                  refine wpAnyH_take (i := 11) (v := ?v11) rfl (by kernel_rfl) (by kernel_rfl) (by kernel_rfl) (fun _ _ _ h => h) (Or.inl ⟨by rfl, ?hy11⟩) (by assumption) ?hr11
                  case hy11 => (intro w hSw; (try dsimp only at hSw); go_simp; try with_reducible rfl)
                  try simp only [Act.put, List.getElem_toArray, List.getElem_cons_zero, List.getElem_cons_succ, List.setIfInBounds_toArray, List.set_cons_zero, List.set_cons_succ]
                  refine wpAnyH_take (i := 12) (v := ?v12) rfl (by kernel_rfl) (by kernel_rfl) (by kernel_rfl) (fun _ _ _ h => h) (Or.inl ⟨by rfl, ?hy12⟩) (by assumption) ?hr12
                  case hy12 => (intro w hSw; (try dsimp only at hSw); go_simp; try with_reducible rfl)
                  try simp only [Act.put, List.getElem_toArray, List.getElem_cons_zero, List.getElem_cons_succ, List.setIfInBounds_toArray, List.set_cons_zero, List.set_cons_succ]
                  refine wpAnyH_ready (rs := [13]) (by kernel_rfl) (by simp) ?_
                  refine AllReadyH.cons rfl (fun K hK => ?_) AllReadyH.nil
                  go_simp
                  go_at_call 3
                  (with_reducible refine (CodecUnpacks_any _ _ (by first | assumption | omega) (KnT.err (by assumption) hg1)).mono ?_)
                  rintro e z2 ⟨rfl, hb⟩
                  try go_wp2_with (fail)
                  refine hK.out _ _ (KnT.step (by assumption) hb) (fun hHeld2 => ?_)
                  clear hK K hHeld hb
                  have hHeld := hHeld2
                  clear hHeld2
                  try simp only [Act.put, List.getElem_toArray, List.getElem_cons_zero, List.getElem_cons_succ, List.setIfInBounds_toArray, List.set_cons_zero, List.set_cons_succ]
                  refine wpAnyH_take (i := 14) (v := ?v14) rfl (by kernel_rfl) (by kernel_rfl) (by kernel_rfl) (fun _ _ _ h => h) (Or.inl ⟨by rfl, ?hy14⟩) (by assumption) ?hr14
                  case hy14 => (intro w hSw; (try dsimp only at hSw); go_simp; try with_reducible rfl)
                  try simp only [Act.put, List.getElem_toArray, List.getElem_cons_zero, List.getElem_cons_succ, List.setIfInBounds_toArray, List.set_cons_zero, List.set_cons_succ]
                  refine wpAnyH_take (i := 15) (v := ?v15) rfl (by kernel_rfl) (by kernel_rfl) (by kernel_rfl) (fun _ _ _ h => h) (Or.inl ⟨by rfl, ?hy15⟩) (by assumption) ?hr15
                  case hy15 => (intro w hSw; (try dsimp only at hSw); go_simp; try with_reducible rfl)
                  try simp only [Act.put, List.getElem_toArray, List.getElem_cons_zero, List.getElem_cons_succ, List.setIfInBounds_toArray, List.set_cons_zero, List.set_cons_succ]
                  refine wpAnyH_take (i := 16) (v := ?v16) rfl (by kernel_rfl) (by kernel_rfl) (by kernel_rfl) (fun _ _ _ h => h) (Or.inl ⟨by rfl, ?hy16⟩) (by assumption) ?hr16
                  case hy16 => (intro w hSw; (try dsimp only at hSw); go_simp; try with_reducible rfl)
                  try simp only [Act.put, List.getElem_toArray, List.getElem_cons_zero, List.getElem_cons_succ, List.setIfInBounds_toArray, List.set_cons_zero, List.set_cons_succ]
                  refine wpAnyH_take (i := 17) (v := ?v17) rfl (by kernel_rfl) (by kernel_rfl) (by kernel_rfl) (fun _ _ _ h => h) (Or.inl ⟨by rfl, ?hy17⟩) (by assumption) ?hr17
                  case hy17 => (intro w hSw; (try dsimp only at hSw); go_simp; try with_reducible rfl)
                  try simp only [Act.put, List.getElem_toArray, List.getElem_cons_zero, List.getElem_cons_succ, List.setIfInBounds_toArray, List.set_cons_zero, List.set_cons_succ]
                  refine wpAnyH_take (i := 18) (v := ?v18) rfl (by kernel_rfl) (by kernel_rfl) (by kernel_rfl) (fun _ _ _ h => h) (Or.inl ⟨by rfl, ?hy18⟩) (by assumption) ?hr18
                  case hy18 => (intro w hSw; (try dsimp only at hSw); go_simp; try with_reducible rfl)
                  try simp only [Act.put, List.getElem_toArray, List.getElem_cons_zero, List.getElem_cons_succ, List.setIfInBounds_toArray, List.set_cons_zero, List.set_cons_succ]
                  refine wpAnyH_take (i := 19) (v := ?v19) rfl (by kernel_rfl) (by kernel_rfl) (by kernel_rfl) (fun _ _ _ h => h) (Or.inl ⟨by rfl, ?hy19⟩) (by assumption) ?hr19
                  case hy19 => (intro w hSw; (try dsimp only at hSw); go_simp; try with_reducible rfl)
                  try simp only [Act.put, List.getElem_toArray, List.getElem_cons_zero, List.getElem_cons_succ, List.setIfInBounds_toArray, List.set_cons_zero, List.set_cons_succ]
                  refine wpAnyH_take (i := 20) (v := ?v20) rfl (by kernel_rfl) (by kernel_rfl) (by kernel_rfl) (fun _ _ _ h => h) (Or.inl ⟨by rfl, ?hy20⟩) (by assumption) ?hr20
                  case hy20 => (intro w hSw; (try dsimp only at hSw); go_simp; try with_reducible rfl)
                  try simp only [Act.put, List.getElem_toArray, List.getElem_cons_zero, List.getElem_cons_succ, List.setIfInBounds_toArray, List.set_cons_zero, List.set_cons_succ]
                  refine wpAnyH_take (i := 21) (v := ?v21) rfl (by kernel_rfl) (by kernel_rfl) (by kernel_rfl) (fun _ _ _ h => h) (Or.inl ⟨by rfl, ?hy21⟩) (by assumption) ?hr21
                  case hy21 => (intro w hSw; (try dsimp only at hSw); go_simp; try with_reducible rfl)
                  try simp only [Act.put, List.getElem_toArray, List.getElem_cons_zero, List.getElem_cons_succ, List.setIfInBounds_toArray, List.set_cons_zero, List.set_cons_succ]
                  refine wpAnyH_take (i := 22) (v := ?v22) rfl (by kernel_rfl) (by kernel_rfl) (by kernel_rfl) (fun _ _ _ h => h) (Or.inl ⟨by rfl, ?hy22⟩) (by assumption) ?hr22
                  case hy22 => (intro w hSw; (try dsimp only at hSw); go_simp; try with_reducible rfl)
                  try simp only [Act.put, List.getElem_toArray, List.getElem_cons_zero, List.getElem_cons_succ, List.setIfInBounds_toArray, List.set_cons_zero, List.set_cons_succ]
                  refine wpAnyH_take (i := 23) (v := undef) rfl (by kernel_rfl) (by kernel_rfl) (by kernel_rfl) (fun _ _ _ h => h) (Or.inr ⟨by rfl, rfl⟩) (by assumption) ?_
                  try simp only [Act.put, List.getElem_toArray, List.getElem_cons_zero, List.getElem_cons_succ, List.setIfInBounds_toArray, List.set_cons_zero, List.set_cons_succ]
                  refine wpAnyH_take (i := 24) (v := undef) rfl (by kernel_rfl) (by kernel_rfl) (by kernel_rfl) (fun _ _ _ h => h) (Or.inr ⟨by rfl, rfl⟩) (by assumption) ?_
                  try simp only [Act.put, List.getElem_toArray, List.getElem_cons_zero, List.getElem_cons_succ, List.setIfInBounds_toArray, List.set_cons_zero, List.set_cons_succ]
                  refine wpAnyH_take (i := 25) (v := undef) rfl (by kernel_rfl) (by kernel_rfl) (by kernel_rfl) (fun _ _ _ h => h) (Or.inr ⟨by rfl, rfl⟩) (by assumption) ?_
                  try simp only [Act.put, List.getElem_toArray, List.getElem_cons_zero, List.getElem_cons_succ, List.setIfInBounds_toArray, List.set_cons_zero, List.set_cons_succ]
                  refine wpAnyH_take (i := 26) (v := undef) rfl (by kernel_rfl) (by kernel_rfl) (by kernel_rfl) (fun _ _ _ h => h) (Or.inr ⟨by rfl, rfl⟩) (by assumption) ?_
                  try simp only [Act.put, List.getElem_toArray, List.getElem_cons_zero, List.getElem_cons_succ, List.setIfInBounds_toArray, List.set_cons_zero, List.set_cons_succ]
                  refine wpAnyH_take (i := 27) (v := undef) rfl (by kernel_rfl) (by kernel_rfl) (by kernel_rfl) (fun _ _ _ h => h) (Or.inr ⟨by rfl, rfl⟩) (by assumption) ?_
                  try simp only [Act.put, List.getElem_toArray, List.getElem_cons_zero, List.getElem_cons_succ, List.setIfInBounds_toArray, List.set_cons_zero, List.set_cons_succ]
                  refine wpAnyH_take (i := 28) (v := undef) rfl (by kernel_rfl) (by kernel_rfl) (by kernel_rfl) (fun _ _ _ h => h) (Or.inr ⟨by rfl, rfl⟩) (by assumption) ?_
                  try simp only [Act.put, List.getElem_toArray, List.getElem_cons_zero, List.getElem_cons_succ, List.setIfInBounds_toArray, List.set_cons_zero, List.set_cons_succ]
                  refine wpAnyH_take (i := 29) (v := undef) rfl (by kernel_rfl) (by kernel_rfl) (by kernel_rfl) (fun _ _ _ h => h) (Or.inr ⟨by rfl, rfl⟩) (by assumption) ?_
                  try simp only [Act.put, List.getElem_toArray, List.getElem_cons_zero, List.getElem_cons_succ, List.setIfInBounds_toArray, List.set_cons_zero, List.set_cons_succ]
                  refine wpAnyH_take (i := 30) (v := undef) rfl (by kernel_rfl) (by kernel_rfl) (by kernel_rfl) (fun _ _ _ h => h) (Or.inr ⟨by rfl, rfl⟩) (by assumption) ?_
                  try simp only [Act.put, List.getElem_toArray, List.getElem_cons_zero, List.getElem_cons_succ, List.setIfInBounds_toArray, List.set_cons_zero, List.set_cons_succ]
                  refine wpAnyH_take (i := 31) (v := undef) rfl (by kernel_rfl) (by kernel_rfl) (by kernel_rfl) (fun _ _ _ h => h) (Or.inr ⟨by rfl, rfl⟩) (by assumption) ?_
                  try simp only [Act.put, List.getElem_toArray, List.getElem_cons_zero, List.getElem_cons_succ, List.setIfInBounds_toArray, List.set_cons_zero, List.set_cons_succ]
                  refine wpAnyH_take (i := 32) (v := undef) rfl (by kernel_rfl) (by kernel_rfl) (by kernel_rfl) (fun _ _ _ h => h) (Or.inr ⟨by rfl, rfl⟩) (by assumption) ?_
                  try simp only [Act.put, List.getElem_toArray, List.getElem_cons_zero, List.getElem_cons_succ, List.setIfInBounds_toArray, List.set_cons_zero, List.set_cons_succ]
                  refine wpAnyH_take (i := 33) (v := undef) rfl (by kernel_rfl) (by kernel_rfl) (by kernel_rfl) (fun _ _ _ h => h) (Or.inr ⟨by rfl, rfl⟩) (by assumption) ?_
                  try simp only [Act.put, List.getElem_toArray, List.getElem_cons_zero, List.getElem_cons_succ, List.setIfInBounds_toArray, List.set_cons_zero, List.set_cons_succ]
                  refine wpAnyH_take (i := 34) (v := undef) rfl (by kernel_rfl) (by kernel_rfl) (by kernel_rfl) (fun _ _ _ h => h) (Or.inr ⟨by rfl, rfl⟩) (by assumption) ?_
                  try simp only [Act.put, List.getElem_toArray, List.getElem_cons_zero, List.getElem_cons_succ, List.setIfInBounds_toArray, List.set_cons_zero, List.set_cons_succ]
                  refine wpAnyH_take (i := 35) (v := undef) rfl (by kernel_rfl) (by kernel_rfl) (by kernel_rfl) (fun _ _ _ h => h) (Or.inr ⟨by rfl, rfl⟩) (by assumption) ?_
                  try simp only [Act.put, List.getElem_toArray, List.getElem_cons_zero, List.getElem_cons_succ, List.setIfInBounds_toArray, List.set_cons_zero, List.set_cons_succ]
                  refine wpAnyH_take (i := 36) (v := undef) rfl (by kernel_rfl) (by kernel_rfl) (by kernel_rfl) (fun _ _ _ h => h) (Or.inr ⟨by rfl, rfl⟩) (by assumption) ?_
                  try simp only [Act.put, List.getElem_toArray, List.getElem_cons_zero, List.getElem_cons_succ, List.setIfInBounds_toArray, List.set_cons_zero, List.set_cons_succ]
                  refine wpAnyH_take (i := 37) (v := undef) rfl (by kernel_rfl) (by kernel_rfl) (by kernel_rfl) (fun _ _ _ h => h) (Or.inr ⟨by rfl, rfl⟩) (by assumption) ?_
                  try simp only [Act.put, List.getElem_toArray, List.getElem_cons_zero, List.getElem_cons_succ, List.setIfInBounds_toArray, List.set_cons_zero, List.set_cons_succ]
                  refine wpAnyH_take (i := 38) (v := undef) rfl (by kernel_rfl) (by kernel_rfl) (by kernel_rfl) (fun _ _ _ h => h) (Or.inr ⟨by rfl, rfl⟩) (by assumption) ?_
                  try simp only [Act.put, List.getElem_toArray, List.getElem_cons_zero, List.getElem_cons_succ, List.setIfInBounds_toArray, List.set_cons_zero, List.set_cons_succ]
                  refine wpAnyH_take (i := 39) (v := undef) rfl (by kernel_rfl) (by kernel_rfl) (by kernel_rfl) (fun _ _ _ h => h) (Or.inr ⟨by rfl, rfl⟩) (by assumption) ?_
                  try simp only [Act.put, List.getElem_toArray, List.getElem_cons_zero, List.getElem_cons_succ, List.setIfInBounds_toArray, List.set_cons_zero, List.set_cons_succ]
                  refine wpAnyH_take (i := 40) (v := undef) rfl (by kernel_rfl) (by kernel_rfl) (by kernel_rfl) (fun _ _ _ h => h) (Or.inr ⟨by rfl, rfl⟩) (by assumption) ?_
                  try simp only [Act.put, List.getElem_toArray, List.getElem_cons_zero, List.getElem_cons_succ, List.setIfInBounds_toArray, List.set_cons_zero, List.set_cons_succ]
                  refine wpAnyH_take (i := 41) (v := undef) rfl (by kernel_rfl) (by kernel_rfl) (by kernel_rfl) (fun _ _ _ h => h) (Or.inr ⟨by rfl, rfl⟩) (by assumption) ?_
                  try simp only [Act.put, List.getElem_toArray, List.getElem_cons_zero, List.getElem_cons_succ, List.setIfInBounds_toArray, List.set_cons_zero, List.set_cons_succ]
                  refine wpAnyH_take (i := 42) (v := undef) rfl (by kernel_rfl) (by kernel_rfl) (by kernel_rfl) (fun _ _ _ h => h) (Or.inr ⟨by rfl, rfl⟩) (by assumption) ?_
                  try simp only [Act.put, List.getElem_toArray, List.getElem_cons_zero, List.getElem_cons_succ, List.setIfInBounds_toArray, List.set_cons_zero, List.set_cons_succ]
                  refine wpAnyH_take (i := 43) (v := undef) rfl (by kernel_rfl) (by kernel_rfl) (by kernel_rfl) (fun _ _ _ h => h) (Or.inr ⟨by rfl, rfl⟩) (by assumption) ?_
                  try simp only [Act.put, List.getElem_toArray, List.getElem_cons_zero, List.getElem_cons_succ, List.setIfInBounds_toArray, List.set_cons_zero, List.set_cons_succ]
                  refine wpAnyH_take (i := 44) (v := undef) rfl (by kernel_rfl) (by kernel_rfl) (by kernel_rfl) (fun _ _ _ h => h) (Or.inr ⟨by rfl, rfl⟩) (by assumption) ?_
                  try simp only [Act.put, List.getElem_toArray, List.getElem_cons_zero, List.getElem_cons_succ, List.setIfInBounds_toArray, List.set_cons_zero, List.set_cons_succ]
                  refine wpAnyH_take (i := 45) (v := undef) rfl (by kernel_rfl) (by kernel_rfl) (by kernel_rfl) (fun _ _ _ h => h) (Or.inr ⟨by rfl, rfl⟩) (by assumption) ?_
                  try simp only [Act.put, List.getElem_toArray, List.getElem_cons_zero, List.getElem_cons_succ, List.setIfInBounds_toArray, List.set_cons_zero, List.set_cons_succ]
                  refine wpAnyH_take (i := 46) (v := ?v46) rfl (by kernel_rfl) (by kernel_rfl) (by kernel_rfl) (fun _ _ _ h => h) (Or.inl ⟨by rfl, ?hy46⟩) (by assumption) ?hr46
                  case hy46 => (intro w hSw; (try dsimp only at hSw); go_simp; try with_reducible rfl)
                  try simp only [Act.put, List.getElem_toArray, List.getElem_cons_zero, List.getElem_cons_succ, List.setIfInBounds_toArray, List.set_cons_zero, List.set_cons_succ]
                  refine wpAnyH_take (i := 47) (v := ?v47) rfl (by kernel_rfl) (by kernel_rfl) (by kernel_rfl) (fun _ _ _ h => h) (Or.inl ⟨by rfl, ?hy47⟩) (by assumption) ?hr47
                  case hy47 => (intro w hSw; (try dsimp only at hSw); go_simp; try with_reducible rfl)
                  try simp only [Act.put, List.getElem_toArray, List.getElem_cons_zero, List.getElem_cons_succ, List.setIfInBounds_toArray, List.set_cons_zero, List.set_cons_succ]
                  refine wpAnyH_done (by kernel_rfl) ?_ _
                  have ktz : KnT w1 g9 X z2 := by assumption
                  go_wp2
                  go_roundw
                  case rel => exact ⟨t + 1, by go_num, by omega, ktz.2, ktz.1⟩
                  case measure => simp [intOf]; omega
              · have ht9 : t = 9 := by omega
                go_wp2
                go_roundw
                case rel => exact ⟨i + 1, by go_num, by omega, hk⟩
                case measure => simp [intOf]; omega
          · go_wp2
            go_roundw
            case rel => exact ⟨j + 1, by go_num, by omega, hk⟩
            case measure => simp [intOf]; omega
      · have hne : ((no : Int) != 0) = true := by simp; omega
        go_wp2
        go_roundw
        case rel => exact ⟨j + 1, by go_num, by omega, hk⟩
        case measure => simp [intOf]; omega
    · have hbel := hB1.trans (Below.mono hk hB1.size)
      have hbs := hbel.size
      have hbB := hbel.alloc hbs (.cells #[.string ⟨#[128, 0]⟩, .string ⟨#[1, 1, 0, 0]⟩, .string ⟨#[1, 0, 2, 97]⟩, .string ⟨#[2, 0, 1, 97, 0, 0, 1, 97, 0]⟩, .string ⟨#[2, 0, 1, 97, 0, 0, 2, 97, 98, 0]⟩, .string ⟨#[2, 0, 1, 97, 0, 1, 1, 98, 0]⟩, .string ⟨#[2, 0, 2, 97, 98, 0, 1, 2, 98, 99, 0]⟩, .string ⟨#[2, 0, 1, 98, 0, 0, 1, 97, 0]⟩, .string ⟨#[2, 0, 1, 98, 0, 2, 128, 0]⟩, .string ⟨#[2, 0, 1, 98, 0, 1, 0, 0]⟩, .string ⟨#[1, 0, 1, 97, 5]⟩] 9)
      have hbk : Blk (wr.alloc (.cells #[.string ⟨#[128, 0]⟩, .string ⟨#[1, 1, 0, 0]⟩, .string ⟨#[1, 0, 2, 97]⟩, .string ⟨#[2, 0, 1, 97, 0, 0, 1, 97, 0]⟩, .string ⟨#[2, 0, 1, 97, 0, 0, 2, 97, 98, 0]⟩, .string ⟨#[2, 0, 1, 97, 0, 1, 1, 98, 0]⟩, .string ⟨#[2, 0, 2, 97, 98, 0, 1, 2, 98, 99, 0]⟩, .string ⟨#[2, 0, 1, 98, 0, 0, 1, 97, 0]⟩, .string ⟨#[2, 0, 1, 98, 0, 2, 128, 0]⟩, .string ⟨#[2, 0, 1, 98, 0, 1, 0, 0]⟩, .string ⟨#[1, 0, 1, 97, 5]⟩] 9)) wr.heap.size (elevenL.map fun l => strV l) 9 := Blk.new wr _ _
      have hkB := hk.step ((Below.refl wr.heap.size wr).alloc (Nat.le_refl _) (.cells #[.string ⟨#[128, 0]⟩, .string ⟨#[1, 1, 0, 0]⟩, .string ⟨#[1, 0, 2, 97]⟩, .string ⟨#[2, 0, 1, 97, 0, 0, 1, 97, 0]⟩, .string ⟨#[2, 0, 1, 97, 0, 0, 2, 97, 98, 0]⟩, .string ⟨#[2, 0, 1, 97, 0, 1, 1, 98, 0]⟩, .string ⟨#[2, 0, 2, 97, 98, 0, 1, 2, 98, 99, 0]⟩, .string ⟨#[2, 0, 1, 98, 0, 0, 1, 97, 0]⟩, .string ⟨#[2, 0, 1, 98, 0, 2, 128, 0]⟩, .string ⟨#[2, 0, 1, 98, 0, 1, 0, 0]⟩, .string ⟨#[1, 0, 1, 97, 5]⟩] 9))
      go_wp2_with (fail)
      generalize wr.alloc (.cells #[.string ⟨#[128, 0]⟩, .string ⟨#[1, 1, 0, 0]⟩, .string ⟨#[1, 0, 2, 97]⟩, .string ⟨#[2, 0, 1, 97, 0, 0, 1, 97, 0]⟩, .string ⟨#[2, 0, 1, 97, 0, 0, 2, 97, 98, 0]⟩, .string ⟨#[2, 0, 1, 97, 0, 1, 1, 98, 0]⟩, .string ⟨#[2, 0, 2, 97, 98, 0, 1, 2, 98, 99, 0]⟩, .string ⟨#[2, 0, 1, 98, 0, 0, 1, 97, 0]⟩, .string ⟨#[2, 0, 1, 98, 0, 2, 128, 0]⟩, .string ⟨#[2, 0, 1, 98, 0, 1, 0, 0]⟩, .string ⟨#[1, 0, 1, 97, 5]⟩] 9) = wS at *
      generalize wr.heap.size = gS at *
      clear hbel hk
      go_loopw [146] (fun tv wr => ∃ t : Nat, tv = .int .i64 t ∧ t ≤ 11 ∧ Blk wr gS (elevenL.map fun l => strV l) 9 ∧ KnS w1 wr ∧ Below w.heap.size w wr) (fun tv _ => 11 - (intOf tv).toNat)
      case atStart => exact ⟨0, rfl, by omega, hbk, hkB, hbB⟩
      case round =>
        clear hbk hkB hbB
        obtain ⟨t, rfl, ht, hbk, hk, hbel⟩ := hrel
        by_cases hlt3 : t < 11
        · obtain ⟨q, hq, hql⟩ := eleven_cell hbk hlt3
          go_wp2_with (fail)
          refine (CodecUnpacks_any q _ (by omega) (hk.err hg1)).mono ?_
          rintro e y1 ⟨rfl, hb⟩
          replace hk := hk.step hb
          replace hbk := hbk.below hb hbk.lt
          replace hbel := hbel.trans (hb.mono hbel.size)
          clear hb hq
          go_wp2_with (fail)
          refine (CodecOnce_any q _ (by omega)).mono ?_
          rintro e y2 ⟨rfl, hb⟩
          replace hk := hk.step hb
          replace hbk := hbk.below hb hbk.lt
          replace hbel := hbel.trans (hb.mono hbel.size)
          clear hb
          go_wp2
          go_roundw
          case rel => exact ⟨t + 1, by go_num, by omega, hbk, hk, hbel⟩
          case measure => simp [intOf]; omega
        · go_wp2_with (fail)
          refine (CodecUnpacks_any [] _ (by simp) (hk.err hg1)).mono ?_
          rintro e y0 ⟨rfl, hb⟩
          replace hk := hk.step hb
          replace hbel := hbel.trans (hb.mono hbel.size)
          clear hb
          go_wp2_with (fail)
          refine (CodecUnpacks_any [0] _ (by simp) (hk.err hg1)).mono ?_
          rintro e y1 ⟨rfl, hb⟩
          replace hk := hk.step hb
          replace hbel := hbel.trans (hb.mono hbel.size)
          clear hb
          go_wp2_with (fail)
          refine (CodecUnpacks_any [0, 120] _ (by simp) (hk.err hg1)).mono ?_
          rintro e y2 ⟨rfl, hb⟩
          replace hk := hk.step hb
          replace hbel := hbel.trans (hb.mono hbel.size)
          clear hb
          go_wp2_with (fail)
          refine (CodecUnpacks_any [255, 255, 255, 255, 255, 255, 255, 255, 255, 1] _ (by simp) (hk.err hg1)).mono ?_
          rintro e y3 ⟨rfl, hb⟩
          replace hk := hk.step hb
          replace hbel := hbel.trans (hb.mono hbel.size)
          clear hb
          go_wp2_with (fail)
          refine (CodecUnpacks_any [1, 0, 255, 255, 255, 255, 255, 255, 255, 255, 255, 1, 97] _ (by simp) (hk.err hg1)).mono ?_
          rintro e y4 ⟨rfl, hb⟩
          replace hk := hk.step hb
          replace hbel := hbel.trans (hb.mono hbel.size)
          clear hb
          go_wp2_with (fail)
          go_ret
          exact ⟨rfl, hbel⟩
end Go.Proofs.YtifdibkpaeocfaaGreatDoor

namespace Go.Proofs.YtifdibkpaeocfaaGreatDoor
open Go.RowKit

set_option maxRecDepth 100000 in
theorem CodecKnown_any (w : World) (hg : ErrorLaid w) : Calls Tryz.prog 4 #[] w fun e w' => e = .returned (.bool true) ∧ Below w.heap.size w w' := by
  go_enter Tryz.func4, Tryz.ntmps4
  go_wp2_with (fail)
  refine (numbers_any _ hg).mono ?_
  rintro e w1 ⟨rfl, hB⟩
  go_wp2_with (fail)
  refine (short_any _ (hg.below hB)).mono ?_
  rintro e w2 ⟨rfl, hb⟩
  replace hB := hB.trans (hb.mono hB.size)
  clear hb
  go_wp2_with (fail)
  refine (packs_any _ (hg.below hB)).mono ?_
  rintro e w3 ⟨rfl, hb⟩
  replace hB := hB.trans (hb.mono hB.size)
  clear hb
  go_wp2_with (fail)
  refine (sums_any _).mono ?_
  rintro e w4 ⟨rfl, hb⟩
  replace hB := hB.trans (hb.mono hB.size)
  go_wp2
  go_ret
  exact ⟨rfl, hB⟩
end Go.Proofs.YtifdibkpaeocfaaGreatDoor
