/- The walk of the document's Unpack, over this translation. -/
import Derived.Test.YtifdibkpaeocfaaGreatDoorReader
import Derived.Test.YtifdibkpaeocfaaGreatDoorRef2
import Derived.Test.YtifdibkpaeocfaaGreatDoorRefPk
import Derived.Test.YtifdibkpaeocfaaGreatDoorUnpack2
import Derived.Deep.RegionHeld3
import Derived.Deep.DeepCutAuto
namespace Go.Proofs.YtifdibkpaeocfaaGreatDoor
open Go.RowKit

theorem slice_preI (l : List UInt8) (p : Nat) (x : Int) (hx : x = p) (h : p ≤ l.length) (w' : World) : (Instr.slice 9 (.string (str l)) none (some (.int .i64 x)) none).run Tryz.prog w' = .ok (strV (l.take p)) w' := by
  subst hx
  exact slice_pre l p h w'
theorem slice_sufI (l : List UInt8) (p : Nat) (x : Int) (hx : x = p) (h : p ≤ l.length) (w' : World) : (Instr.slice 9 (.string (str l)) (some (.int .i64 x)) none none).run Tryz.prog w' = .ok (strV (l.drop p)) w' := by
  subst hx
  have e := str_size l
  have hx : (str l).extract p l.length = str (l.drop p) := str_extract_to l p
  have h1 : (p : Int) ≤ l.length := by omega
  have h0 : (0 : Int) ≤ p := by omega
  go_simp
def RefUnpackPost (w : World) (r : List PairL × Nat) (e : Ending) (w' : World) : Prop :=
  ∃ v, e = .returned (.tuple #[v, .int .i64 r.2]) ∧ w'.ownsRow w.heap.size 33 2 v r.1.length (cellsP r.1) ∧ Below w.heap.size w w'
theorem RefUnpackPost_none {w w' : World} {no : Nat} (hb : Below w.heap.size w w') : RefUnpackPost w ([], no) (.returned (.tuple #[.slice none 0 0, .int .i64 no])) w' :=
  ⟨.slice none 0 0, rfl, World.ownsRow_nil _ _ _ _, hb⟩

theorem Blk.grown {w w' : World} {b : Nat} {xs : List Value} {t : TypeId} {r : Option Nat} (h : Blk w b xs t) (hg : w.grownBy w' r) (hne : some b ≠ r) : Blk w' b xs t := by
  unfold Blk
  rw [hg.block b h.lt hne]
  exact h
theorem far_of {v : Value} {g gg H cap n : Nat} (hO : v.ownBlock = none ∨ v.ownBlock ≠ some g) (hl : v.ownBlock = some gg ∨ gg = H) (hg : g < H) : (Value.slice (some ⟨gg, 0, none⟩) n cap).ownBlock = none ∨ (Value.slice (some ⟨gg, 0, none⟩) n cap).ownBlock ≠ some g := by
  right
  show some gg ≠ some g
  rcases hl with h | h
  · rw [h] at hO
    rcases hO with h2 | h2
    · cases h2
    · exact h2
  · simp; omega
theorem round_next {D i bytes n7 n8 : Nat} {s s2 key next val : List UInt8} {acc : List PairL} {U : List PairL × Nat} (hU : U = unpackGo (D + 1) i s key bytes acc) (q7 : n7 = 0 → pairL s key (i == 0) = ((next, val), s2, 0)) (q8 : n7 ≠ 0 → (pairL s key (i == 0)).2.2 = n7) (h8 : n8 = rdF 5 (decide (268435456 < bytes + next.length + val.length)) n7) :
    (n8 = 0 → bytes + next.length + val.length ≤ 268435456) ∧ (n8 = 0 → U = unpackGo D (i + 1) s2 next (bytes + next.length + val.length) (acc ++ [(next, val)])) ∧ (n8 ≠ 0 → U = ([], n8)) := by
  by_cases h7 : n7 = 0
  · have hp := q7 h7
    by_cases hm : 268435456 < bytes + next.length + val.length
    · rw [h7, decide_eq_true hm, rdF_yes] at h8
      refine ⟨fun h => by omega, fun h => by omega, fun _ => ?_⟩
      rw [hU, unpackGo_many (by rw [hp]) (by rw [hp]; show _ < bytes + (next.length + val.length); omega), h8]
    · rw [h7, decide_eq_false hm, rdF_no] at h8
      refine ⟨fun _ => by omega, fun _ => ?_, fun h => absurd h8 h⟩
      rw [hU, unpackGo_more (by rw [hp]) (by rw [hp]; show ¬ _ < bytes + (next.length + val.length); omega), hp, Nat.add_assoc]
  · rw [rdF_bad h7] at h8
    refine ⟨fun h => by omega, fun h => by omega, fun _ => ?_⟩
    rw [hU, unpackGo_err (by rw [q8 h7]; exact h7), q8 h7, h8]

set_option maxHeartbeats 4000000 in
set_option maxRecDepth 100000 in
theorem refUnpack_any (l : List UInt8) (w : World) (hs : l.length ≤ 65536) : Calls Tryz.prog 13 #[.string (str l)] w fun e w' => RefUnpackPost w (unpackL l) e w' := by
  have e1 := str_size l
  by_cases h5 : l.length < 5
  · have ha : unpackL l = ([], 2) := by rw [unpackL, if_pos h5]
    have HA := Lib.hid ha
    clear ha
    go_enter Tryz.func13, Tryz.ntmps13
    go_wp2
    go_ret2
    rw [HA.out]
    exact RefUnpackPost_none (Below.refl _ _)
  · have ha : unpackL l = if l.drop (l.length - 4) ≠ crcTail (l.take (l.length - 4)) then ([], 7) else unpackBody (l.take (l.length - 4)) := by rw [unpackL, if_neg h5]
    have HA := Lib.hid ha
    clear ha
    have hbl : (l.take (l.length - 4)).length = l.length - 4 := by simp
    have HBL := Lib.hid hbl
    clear hbl
    have hw0 : IntKind.i64.wrap ((l.length : Int) - 4) = (l.length : Int) - 4 := IntWalk.i64_in _ (by omega)
    have hs1 := slice_sufI l (l.length - 4) ((l.length : Int) - 4) (by omega) (by omega)
    have hs2 := slice_preI l (l.length - 4) ((l.length : Int) - 4) (by omega) (by omega)
    generalize l.take (l.length - 4) = b at *
    generalize l.drop (l.length - 4) = t at *
    have e2 := str_size b
    have e3 := str_size t
    rw [HBL.out] at e2
    have hfour : fourL (crc b) = crcTail b := rfl
    have HF := Lib.hid hfour
    have hbm : b.length ≤ 65536 := by rw [HBL.out]; omega
    clear hfour
    by_cases hsum : t = crcTail b
    · have hq : ((str t).toList == (str (crcTail b)).toList) = true := by rw [hsum]; simp
      have HA2 := Lib.hid (HA.out.trans (if_neg (by simpa using hsum)))
      have HS := Lib.hid hsum
      clear HA hsum
      go_enter Tryz.func13, Tryz.ntmps13
      go_wp2_with (fail)
      go_region_held3 (fun _ => True) (trivial) (first
        | (go_at_call 5; refine (refSum_any b _ (by omega)).mono ?_; rintro e w5 ⟨rfl, rfl⟩)
        | (go_at_call 33; refine (reffour_any (crc b) _).mono ?_; rw [HF.out]; rintro e w6 ⟨rfl, hb6⟩))
      have hbel0 := below_undrew hb6
      have hbs0 := hbel0.size
      have hR0 : Rd (w6.alloc (.cells #[strV b, .int .i64 0, .int .i64 0] 86)) w6.heap.size b 0 0 := Blk.new w6 [strV b, .int .i64 0, .int .i64 0] 86
      have hbel1 := hbel0.alloc hbs0 (.cells #[strV b, .int .i64 0, .int .i64 0] 86)
      have hgl := hR0.lt
      go_wp2_with (fail)
      generalize w6.alloc (.cells #[strV b, .int .i64 0, .int .i64 0] 86) = w7 at *
      generalize w6.heap.size = g at *
      refine (rdNumber_all w7 g b 0 0 hR0 (by omega) (by omega)).mono ?_
      rintro e w8 ⟨rfl, hR1, hg1⟩
      replace hbel1 := hbel1.trans (grown_below hg1 hbs0 hgl)
      have hl0 := rdN_le (s := b) (no := 0) (Nat.zero_le _)
      have hE : rdN b 0 0 = ((readU 0 0 (b.drop 0)).1, 0 + (readU 0 0 (b.drop 0)).2.1, (readU 0 0 (b.drop 0)).2.2) := by rw [rdN, if_pos rfl]
      rw [List.drop_zero, Nat.zero_add] at hE
      rw [hE] at hR1 hl0 ⊢
      have hU : ((readU 0 0 b).2.2 = 0 → unpackL l = unpackGo (readU 0 0 b).1 0 (b.drop (readU 0 0 b).2.1) [] 0 []) ∧ ((readU 0 0 b).2.2 ≠ 0 → unpackL l = ([], (readU 0 0 b).2.2)) := by
        refine ⟨fun h => ?_, fun h => ?_⟩
        · rw [HA2.out, unpackBody, if_neg (by omega)]
        · rw [HA2.out, unpackBody, if_pos h]
      have HU := Lib.hid hU
      clear hU hE HA2 hR0 hg1 hb6 hgl
      generalize (readU 0 0 b).1 = many at *
      generalize (readU 0 0 b).2.1 = p0 at *
      generalize (readU 0 0 b).2.2 = no0 at *
      obtain ⟨_, hp0, hmany, _⟩ := hl0
      go_wp2_with (fail)
      go_loopw [6, 7, 8, 9] (fun lv kv zv iv wr => ∃ (i bytes p no : Nat) (key : List UInt8) (acc : List PairL), kv = strV key ∧ zv = .int .i64 bytes ∧ iv = .int .u64 i ∧ i ≤ many ∧ p ≤ b.length ∧ key.length ≤ p ∧ acc.length ≤ p ∧ Hid (no = 0 → bytes ≤ 268435456) ∧ Hid (no = 0 → unpackL l = unpackGo (many - i) i (b.drop p) key bytes acc) ∧ Hid (no ≠ 0 → unpackL l = ([], no)) ∧ Rd wr g b p no ∧ wr.ownsRow w.heap.size 33 2 lv acc.length (cellsP acc) ∧ Hid (lv.ownBlock = none ∨ lv.ownBlock ≠ some g) ∧ Below w.heap.size w wr) (fun _ _ _ iv _ => many - (intOf iv).toNat)
      case atStart => exact ⟨0, 0, p0, no0, [], [], rfl, rfl, rfl, by omega, hp0, by simp, by simp, fun _ => by omega, HU.out.1, HU.out.2, hR1, World.ownsRow_nil _ _ _ _, Or.inl rfl, hbel1⟩
      case round =>
        clear hbel1 HU hR1
        obtain ⟨i, bytes, p, no, key, acc, rfl, rfl, rfl, hi, hp, hkl, hal, HB, HG, HN, hR, hown, HO, hbel⟩ := hrel
        have ek := str_size key
        have c0 := hR.cell 0
        have c1 := hR.cell 1
        have c2 := hR.cell 2
        simp only [List.getElem?_cons_zero, List.getElem?_cons_succ] at c0 c1 c2
        by_cases hlt : i < many
        · by_cases hno : no = 0
          · subst hno
            obtain ⟨k, a1, n1, H1⟩ : ∃ k' a1' n1', Hid (rdN b p 0 = (k', a1', n1')) := ⟨_, _, _, (rfl : rdN b p 0 = _)⟩
            obtain ⟨n2, H2⟩ : ∃ n2, Hid (n2 = rdF 4 (decide (key.length < k)) n1) := ⟨_, (rfl : rdF 4 (decide (key.length < k)) n1 = _)⟩
            obtain ⟨n, a2, n3, H3⟩ : ∃ k' a1' n1', Hid (rdN b a1 n2 = (k', a1', n1')) := ⟨_, _, _, (rfl : rdN b a1 n2 = _)⟩
            obtain ⟨rest, a3, n4, H4⟩ : ∃ k' a1' n1', Hid (rdT b n a2 n3 = (k', a1', n1')) := ⟨_, _, _, (rfl : rdT b n a2 n3 = _)⟩
            have l1 := rdN_le (no := 0) hp
            rw [H1.out] at l1
            obtain ⟨l1a, l1b, l1c, l1d⟩ := l1
            have l3 := rdN_le (no := n2) l1b
            rw [H3.out] at l3
            obtain ⟨l3a, l3b, l3c, l3d⟩ := l3
            dsimp only at l1a l1b l1c l3a l3b l3c
            clear l1d l3d
            have er := str_size rest
            by_cases h4 : n4 = 0
            · obtain ⟨n5, H5⟩ : ∃ n5, Hid (n5 = rdF 4 (bad4 (i == 0) key (key.take k ++ rest) k) n4) := ⟨_, (rfl : rdF 4 (bad4 (i == 0) key (key.take k ++ rest) k) n4 = _)⟩
              obtain ⟨m, a4, n6, H6⟩ : ∃ k' a1' n1', Hid (rdN b a3 n5 = (k', a1', n1')) := ⟨_, _, _, (rfl : rdN b a3 n5 = _)⟩
              obtain ⟨val, a5, n7, H7⟩ : ∃ k' a1' n1', Hid (rdT b m a4 n6 = (k', a1', n1')) := ⟨_, _, _, (rfl : rdT b m a4 n6 = _)⟩
              obtain ⟨q1, q2, q3, q4, q5, q6, q7, q8⟩ := round_go (key := key) (f := (i == 0)) hp H1.out H2.out H3.out H4.out h4 H5.out H6.out H7.out
              have l4 := rdT_le (n := n) (no := n3) l3b
              rw [H4.out] at l4
              obtain ⟨l4a, l4b⟩ := l4
              dsimp only at l4a l4b
              have l6 := rdN_le (no := n5) l4b
              rw [H6.out] at l6
              obtain ⟨l6a, l6b, l6c, l6d⟩ := l6
              dsimp only at l6a l6b l6c
              clear l6d
              have Q7 := Lib.hid q7
              have Q8 := Lib.hid q8
              have HL4 := Lib.hid l4a
              have hsl : (str key).extract 0 k = str (key.take k) := by rw [str_extract]; simp
              have hw1 : IntKind.i64.wrap (k : Int) = k := IntWalk.i64_in _ (by omega)
              have hkl : (key.take k).length = k := by rw [List.length_take]; omega
              have hadd := add_run (key.take k) rest (by rw [hkl]; omega)
              obtain ⟨next, HX⟩ : ∃ next, Hid (next = key.take k ++ rest) := ⟨_, (rfl : key.take k ++ rest = _)⟩
              have HN4 := Lib.hid h4
              rw [← HX.out] at hadd q3 H5 Q7
              clear q7 q8 l4a h4
              have enx := str_size next
              have evl := str_size val
              have ekt := str_size (key.take k)
              rw [hkl] at ekt
              generalize key.take k = ktk at *
              have hB := HB.out rfl
              have hd : many - i = (many - (i + 1)) + 1 := by omega
              have hA := HG.out rfl
              rw [hd] at hA
              have HA := Lib.hid hA
              have HD := Lib.hid hd
              have HKL := Lib.hid hkl
              clear hA hd hkl HG HB
              go_wp2_with (fail)
              refine (rdNumber_to hR hp (by omega) H1).mono ?_
              rintro e x1 ⟨rfl, hR1, hg1⟩
              replace hbel := hbel.trans (grown_below hg1 hbs0 hR.lt)
              replace hown := hown.kept hg1 HO.out
              clear hR c0 c1 c2 hg1
              go_wp2_with (fail)
              refine (rdFail_to hR1 H2).mono ?_
              rintro e x2 ⟨rfl, hR2, hg2⟩
              replace hbel := hbel.trans (grown_below hg2 hbs0 hR1.lt)
              replace hown := hown.kept hg2 HO.out
              clear hR1 hg2
              go_wp2_with (fail)
              refine (rdNumber_to hR2 l1b (by omega) H3).mono ?_
              rintro e x3 ⟨rfl, hR3, hg3⟩
              replace hbel := hbel.trans (grown_below hg3 hbs0 hR2.lt)
              replace hown := hown.kept hg3 HO.out
              clear hR2 hg3
              go_wp2_with (fail)
              refine (rdText_to hR3 l3b (by omega) l3c H4).mono ?_
              rintro e x4 ⟨rfl, hR4, hg4⟩
              replace hbel := hbel.trans (grown_below hg4 hbs0 hR3.lt)
              replace hown := hown.kept hg4 HO.out
              clear hR3 hg4
              have c2 := hR4.cell 2
              simp only [List.getElem?_cons_zero, List.getElem?_cons_succ] at c2
              have hne : ((n4 : Int) != 0) = false := by have := HN4.out; simp; omega
              obtain ⟨cc, HC⟩ : ∃ cc, Hid (cc = cpl key next) := ⟨_, (rfl : cpl key next = _)⟩
              have hsh := fun w => refshared_any (str key) (str next) w (by omega) (by omega)
              simp only [str_data, ← HC.out] at hsh
              have HSH := Lib.hid hsh
              clear hsh
              have hways : (0 < i ∧ kle next key = true) ∨ ((i = 0 ∨ kle next key = false) ∧ cc = k) ∨ ((i = 0 ∨ kle next key = false) ∧ cc ≠ k) := by
                by_cases e1 : 0 < i
                · cases kle next key with
                  | true => exact Or.inl ⟨e1, rfl⟩
                  | false => by_cases e2 : cc = k
                             · exact Or.inr (Or.inl ⟨Or.inr rfl, e2⟩)
                             · exact Or.inr (Or.inr ⟨Or.inr rfl, e2⟩)
                · by_cases e2 : cc = k
                  · exact Or.inr (Or.inl ⟨Or.inl (by omega), e2⟩)
                  · exact Or.inr (Or.inr ⟨Or.inl (by omega), e2⟩)
              rcases hways with ⟨e1, e2⟩ | ⟨e1, e2⟩ | ⟨e1, e2⟩
              · have hb : Hid (n5 = rdF 4 true n4) := by
                  have hbad : bad4 (i == 0) key next k = true := by unfold bad4; rw [e2]; simp; omega
                  show _ = _
                  rw [H5.out, hbad]
                have hkw := kle_walk e2
                clear e2
                go_wp2_with (fail)
                refine (rdFail_to hR4 hb).mono ?_
                rintro e x5 ⟨rfl, hR5, hg5⟩
                replace hbel := hbel.trans (grown_below hg5 hbs0 hR4.lt)
                replace hown := hown.kept hg5 HO.out
                clear hR4 hg5 c2
                go_wp2_with (fail)
                refine (rdNumber_to hR5 l4b (by omega) H6).mono ?_
                rintro e x6 ⟨rfl, hR6, hg6⟩
                replace hbel := hbel.trans (grown_below hg6 hbs0 hR5.lt)
                replace hown := hown.kept hg6 HO.out
                clear hR5 hg6
                go_wp2_with (fail)
                refine (rdText_to hR6 l6b (by omega) l6c H7).mono ?_
                rintro e x7 ⟨rfl, hR7, hg7⟩
                replace hbel := hbel.trans (grown_below hg7 hbs0 hR6.lt)
                replace hown := hown.kept hg7 HO.out
                clear hR6 hg7
                go_wp2_with (fail)
                obtain ⟨n8, H8⟩ : ∃ n8, Hid (n8 = rdF 5 (decide (268435456 < bytes + next.length + val.length)) n7) := ⟨_, (rfl : rdF 5 (decide (268435456 < bytes + next.length + val.length)) n7 = _)⟩
                refine (rdFail_to (f := 5) (n1 := n8) hR7 ?hso).mono ?_
                case hso =>
                  show _ = _
                  rw [H8.out]
                  congr 1
                  rw [decide_eq_decide]
                  omega
                rintro e x8 ⟨rfl, hR8, hg8⟩
                replace hbel := hbel.trans (grown_below hg8 hbs0 hR7.lt)
                replace hown := hown.kept hg8 HO.out
                clear hR7 hg8
                have hbs := hbel.size
                have hgl8 := hR8.lt
                obtain ⟨i0, hii, hiz0, hiz1, hiz2⟩ := info_parts infoPair3
                go_wp2_with (at_builtin; refine wpList_append_lies _ rfl _ _ 29 rfl w.heap.size 33 i0 _ 2 32 Tryz.underlying29 hii hiz0 hiz1 hiz2 rfl (by omega) u6 acc.length (cellsP acc) rfl (hown.alloc _) ⟨x8.heap.size, 0, none⟩ 1 1 [strV next, strV val] rfl rfl (World.news_of_block (cs := #[strV next, strV val]) (t := 33) (fr := (0, 0)) (heap_alloc_new x8 _)) ?c0 (by omega) ?c1 ?c2 ?c3 (x8.heap.size + 1) (by simp) ?_)
                case c0 => simp [Value.oneCell']
                case c1 => unfold maxLen; omega
                case c2 => omega
                case c3 => simp; omega
                intro gg cap x9 hown2 hgrow hlies hlt9
                go_wp2
                obtain ⟨r1, r2, r3⟩ := round_next (s2 := b.drop a5) HA.out Q7.out Q8.out H8.out
                go_roundw
                case rel =>
                  refine ⟨i + 1, bytes + next.length + val.length, a5, n8, next, acc ++ [(next, val)], rfl, by go_num, by go_num, by omega, q5, by omega, by simp; omega, r1, r2, r3, Blk.grown (Blk.alloc hR8 _) hgrow ?_, ?_, far_of HO.out hlies (by omega), (hbel.alloc hbs _).grown hgrow (by simp; omega) (fun k hk => (hown.lt k hk).1)⟩
                  · intro e
                    rcases HO.out with h | h
                    · rw [h] at e; cases e
                    · exact h e.symm
                  · rw [cellsP_snoc]
                    simpa using hown2
                case measure => simp [intOf]; omega
              · have hb : Hid (n5 = rdF 4 false n4) := by
                  have hbad : bad4 (i == 0) key next k = false := by
                    unfold bad4
                    rw [← HC.out]
                    rcases e1 with e1 | e1
                    · rw [e1, e2]; simp
                    · rw [e1, e2]; simp
                  show _ = _
                  rw [H5.out, hbad]
                have hcb := (cpl_le key next).1
                rw [← HC.out] at hcb
                have hc1 : ((cc : Int) == k) = true := by simp; omega
                have hc2 : ((cc : Int) != k) = false := by simp; omega
                have HE := Lib.hid e2
                clear e2
                have hw : i ≤ 0 ∨ (0 < i ∧ kle next key = false) := by
                  rcases e1 with e1 | e1
                  · omega
                  · by_cases hi0 : 0 < i
                    · exact Or.inr ⟨hi0, e1⟩
                    · omega
                clear e1
                rcases hw with hi0 | ⟨hi0, e1⟩
                all_goals
                  try (obtain ⟨hk1, hk2⟩ := nkle_walk e1; clear e1)
                  all_goals
                    go_wp2_with (fail)
                    refine (HSH.out _).mono ?_
                    rintro e xs ⟨rfl, hbs⟩
                    replace hR4 := Blk.below hR4 hbs hR4.lt
                    replace hown := keepOwns hown hbs
                    replace hbel := hbel.trans (hbs.mono hbel.size)
                    clear hbs
                    go_wp2_with (fail)
                    refine (rdFail_to hR4 hb).mono ?_
                    rintro e x5 ⟨rfl, hR5, hg5⟩
                    replace hbel := hbel.trans (grown_below hg5 hbs0 hR4.lt)
                    replace hown := hown.kept hg5 HO.out
                    clear hR4 hg5 c2
                    go_wp2_with (fail)
                    refine (rdNumber_to hR5 l4b (by omega) H6).mono ?_
                    rintro e x6 ⟨rfl, hR6, hg6⟩
                    replace hbel := hbel.trans (grown_below hg6 hbs0 hR5.lt)
                    replace hown := hown.kept hg6 HO.out
                    clear hR5 hg6
                    go_wp2_with (fail)
                    refine (rdText_to hR6 l6b (by omega) l6c H7).mono ?_
                    rintro e x7 ⟨rfl, hR7, hg7⟩
                    replace hbel := hbel.trans (grown_below hg7 hbs0 hR6.lt)
                    replace hown := hown.kept hg7 HO.out
                    clear hR6 hg7
                    go_wp2_with (fail)
                    obtain ⟨n8, H8⟩ : ∃ n8, Hid (n8 = rdF 5 (decide (268435456 < bytes + next.length + val.length)) n7) := ⟨_, (rfl : rdF 5 (decide (268435456 < bytes + next.length + val.length)) n7 = _)⟩
                    refine (rdFail_to (f := 5) (n1 := n8) hR7 ?hso).mono ?_
                    case hso =>
                      show _ = _
                      rw [H8.out]
                      congr 1
                      rw [decide_eq_decide]
                      omega
                    rintro e x8 ⟨rfl, hR8, hg8⟩
                    replace hbel := hbel.trans (grown_below hg8 hbs0 hR7.lt)
                    replace hown := hown.kept hg8 HO.out
                    clear hR7 hg8
                    have hbs := hbel.size
                    have hgl8 := hR8.lt
                    obtain ⟨i0, hii, hiz0, hiz1, hiz2⟩ := info_parts infoPair3
                    go_wp2_with (at_builtin; refine wpList_append_lies _ rfl _ _ 29 rfl w.heap.size 33 i0 _ 2 32 Tryz.underlying29 hii hiz0 hiz1 hiz2 rfl (by omega) u6 acc.length (cellsP acc) rfl (hown.alloc _) ⟨x8.heap.size, 0, none⟩ 1 1 [strV next, strV val] rfl rfl (World.news_of_block (cs := #[strV next, strV val]) (t := 33) (fr := (0, 0)) (heap_alloc_new x8 _)) ?c0 (by omega) ?c1 ?c2 ?c3 (x8.heap.size + 1) (by simp) ?_)
                    case c0 => simp [Value.oneCell']
                    case c1 => unfold maxLen; omega
                    case c2 => omega
                    case c3 => simp; omega
                    intro gg cap x9 hown2 hgrow hlies hlt9
                    go_wp2
                    obtain ⟨r1, r2, r3⟩ := round_next (s2 := b.drop a5) HA.out Q7.out Q8.out H8.out
                    go_roundw
                    case rel =>
                      refine ⟨i + 1, bytes + next.length + val.length, a5, n8, next, acc ++ [(next, val)], rfl, by go_num, by go_num, by omega, q5, by omega, by simp; omega, r1, r2, r3, Blk.grown (Blk.alloc hR8 _) hgrow ?_, ?_, far_of HO.out hlies (by omega), (hbel.alloc hbs _).grown hgrow (by simp; omega) (fun k hk => (hown.lt k hk).1)⟩
                      · intro e
                        rcases HO.out with h | h
                        · rw [h] at e; cases e
                        · exact h e.symm
                      · rw [cellsP_snoc]
                        simpa using hown2
                    case measure => simp [intOf]; omega
              · have hb : Hid (n5 = rdF 4 true n4) := by
                  have hbad : bad4 (i == 0) key next k = true := by
                    unfold bad4
                    rw [← HC.out]
                    simp; exact Or.inr e2
                  show _ = _
                  rw [H5.out, hbad]
                have hcb := (cpl_le key next).1
                rw [← HC.out] at hcb
                have hc1 : ((cc : Int) == k) = false := by simp; omega
                have hc2 : ((cc : Int) != k) = true := by simp; omega
                have HE := Lib.hid e2
                clear e2
                have hw : i ≤ 0 ∨ (0 < i ∧ kle next key = false) := by
                  rcases e1 with e1 | e1
                  · omega
                  · by_cases hi0 : 0 < i
                    · exact Or.inr ⟨hi0, e1⟩
                    · omega
                clear e1
                rcases hw with hi0 | ⟨hi0, e1⟩
                all_goals
                  try (obtain ⟨hk1, hk2⟩ := nkle_walk e1; clear e1)
                  all_goals
                    go_wp2_with (fail)
                    refine (HSH.out _).mono ?_
                    rintro e xs ⟨rfl, hbs⟩
                    replace hR4 := Blk.below hR4 hbs hR4.lt
                    replace hown := keepOwns hown hbs
                    replace hbel := hbel.trans (hbs.mono hbel.size)
                    clear hbs
                    go_wp2_with (fail)
                    refine (rdFail_to hR4 hb).mono ?_
                    rintro e x5 ⟨rfl, hR5, hg5⟩
                    replace hbel := hbel.trans (grown_below hg5 hbs0 hR4.lt)
                    replace hown := hown.kept hg5 HO.out
                    clear hR4 hg5 c2
                    go_wp2_with (fail)
                    refine (rdNumber_to hR5 l4b (by omega) H6).mono ?_
                    rintro e x6 ⟨rfl, hR6, hg6⟩
                    replace hbel := hbel.trans (grown_below hg6 hbs0 hR5.lt)
                    replace hown := hown.kept hg6 HO.out
                    clear hR5 hg6
                    go_wp2_with (fail)
                    refine (rdText_to hR6 l6b (by omega) l6c H7).mono ?_
                    rintro e x7 ⟨rfl, hR7, hg7⟩
                    replace hbel := hbel.trans (grown_below hg7 hbs0 hR6.lt)
                    replace hown := hown.kept hg7 HO.out
                    clear hR6 hg7
                    go_wp2_with (fail)
                    obtain ⟨n8, H8⟩ : ∃ n8, Hid (n8 = rdF 5 (decide (268435456 < bytes + next.length + val.length)) n7) := ⟨_, (rfl : rdF 5 (decide (268435456 < bytes + next.length + val.length)) n7 = _)⟩
                    refine (rdFail_to (f := 5) (n1 := n8) hR7 ?hso).mono ?_
                    case hso =>
                      show _ = _
                      rw [H8.out]
                      congr 1
                      rw [decide_eq_decide]
                      omega
                    rintro e x8 ⟨rfl, hR8, hg8⟩
                    replace hbel := hbel.trans (grown_below hg8 hbs0 hR7.lt)
                    replace hown := hown.kept hg8 HO.out
                    clear hR7 hg8
                    have hbs := hbel.size
                    have hgl8 := hR8.lt
                    obtain ⟨i0, hii, hiz0, hiz1, hiz2⟩ := info_parts infoPair3
                    go_wp2_with (at_builtin; refine wpList_append_lies _ rfl _ _ 29 rfl w.heap.size 33 i0 _ 2 32 Tryz.underlying29 hii hiz0 hiz1 hiz2 rfl (by omega) u6 acc.length (cellsP acc) rfl (hown.alloc _) ⟨x8.heap.size, 0, none⟩ 1 1 [strV next, strV val] rfl rfl (World.news_of_block (cs := #[strV next, strV val]) (t := 33) (fr := (0, 0)) (heap_alloc_new x8 _)) ?c0 (by omega) ?c1 ?c2 ?c3 (x8.heap.size + 1) (by simp) ?_)
                    case c0 => simp [Value.oneCell']
                    case c1 => unfold maxLen; omega
                    case c2 => omega
                    case c3 => simp; omega
                    intro gg cap x9 hown2 hgrow hlies hlt9
                    go_wp2
                    obtain ⟨r1, r2, r3⟩ := round_next (s2 := b.drop a5) HA.out Q7.out Q8.out H8.out
                    go_roundw
                    case rel =>
                      refine ⟨i + 1, bytes + next.length + val.length, a5, n8, next, acc ++ [(next, val)], rfl, by go_num, by go_num, by omega, q5, by omega, by simp; omega, r1, r2, r3, Blk.grown (Blk.alloc hR8 _) hgrow ?_, ?_, far_of HO.out hlies (by omega), (hbel.alloc hbs _).grown hgrow (by simp; omega) (fun k hk => (hown.lt k hk).1)⟩
                      · intro e
                        rcases HO.out with h | h
                        · rw [h] at e; cases e
                        · exact h e.symm
                      · rw [cellsP_snoc]
                        simpa using hown2
                    case measure => simp [intOf]; omega
            · have hbr := round_break (key := key) (f := (i == 0)) hp H1.out H2.out H3.out H4.out h4
              have hd : many - i = (many - (i + 1)) + 1 := by omega
              have hA := HG.out rfl
              rw [hd, unpackGo_err (by rw [hbr]; exact h4), hbr] at hA
              have HA := Lib.hid hA
              have HD := Lib.hid hd
              have HBR := Lib.hid hbr
              clear hA hd hbr
              go_wp2_with (fail)
              refine (rdNumber_to hR hp (by omega) H1).mono ?_
              rintro e x1 ⟨rfl, hR1, hg1⟩
              replace hbel := hbel.trans (grown_below hg1 hbs0 hR.lt)
              clear hR c0 c1 c2 hg1
              go_wp2_with (fail)
              refine (rdFail_to hR1 H2).mono ?_
              rintro e x2 ⟨rfl, hR2, hg2⟩
              replace hbel := hbel.trans (grown_below hg2 hbs0 hR1.lt)
              clear hR1 hg2
              go_wp2_with (fail)
              refine (rdNumber_to hR2 l1b (by omega) H3).mono ?_
              rintro e x3 ⟨rfl, hR3, hg3⟩
              replace hbel := hbel.trans (grown_below hg3 hbs0 hR2.lt)
              clear hR2 hg3
              go_wp2_with (fail)
              refine (rdText_to hR3 l3b (by omega) l3c H4).mono ?_
              rintro e x4 ⟨rfl, hR4, hg4⟩
              replace hbel := hbel.trans (grown_below hg4 hbs0 hR3.lt)
              clear hR3 hg4
              have c0 := hR4.cell 0
              have c1 := hR4.cell 1
              have c2 := hR4.cell 2
              simp only [List.getElem?_cons_zero, List.getElem?_cons_succ] at c0 c1 c2
              have hne : ((n4 : Int) != 0) = true := by simp; omega
              go_wp2_with (fail)
              go_region_held3 (fun w' => w'.cell? ⟨g, 0, none⟩ = some (strV b) ∧ w'.cell? ⟨g, 1, none⟩ = some (.int .i64 a3)) (first | go_keep | exact ⟨hRe.cell 0, hRe.cell 1⟩)
                ((go_at_call 35; refine (rdFail_to (w := x4.drew) (f := 3) (n1 := n4) hR4 (rdF_bad h4).symm).mono ?_; rintro e y1 ⟨rfl, hRe, hge⟩))
              have d2 := hRe.cell 2
              simp only [List.getElem?_cons_zero, List.getElem?_cons_succ] at d2
              replace hbel := hbel.drew.trans (grown_below hge hbs0 hR4.lt)
              clear hge
              go_wp2_with (fail)
              go_quiet (fail)
              go_wp2
              go_ret2
              rw [HA.out]
              exact RefUnpackPost_none (below_drewN hbel _)
          · have hA := HN.out hno
            have HA := Lib.hid hA
            have hne : ((no : Int) != 0) = true := by simp; omega
            have hne2 : ((no : Int) == 0) = false := by simp; omega
            clear hA
            go_wp2_with (fail)
            go_region_held3 (fun w' => w'.cell? ⟨g, 0, none⟩ = some (strV b) ∧ w'.cell? ⟨g, 1, none⟩ = some (.int .i64 p)) (first | go_keep | exact ⟨hRe.cell 0, hRe.cell 1⟩)
              ((go_at_call 35; refine (rdFail_to (w := wr.drew) (f := 3) (n1 := no) hR (rdF_bad hno).symm).mono ?_; rintro e y1 ⟨rfl, hRe, hge⟩))
            have d2 := hRe.cell 2
            simp only [List.getElem?_cons_zero, List.getElem?_cons_succ] at d2
            replace hbel := hbel.drew.trans (grown_below hge hbs0 hR.lt)
            clear hge
            go_wp2_with (fail)
            go_quiet (fail)
            go_wp2
            go_ret2
            rw [HA.out]
            exact RefUnpackPost_none (below_drewN hbel _)
        · have him : i = many := by omega
          subst him
          by_cases hno : no = 0
          · subst hno
            have hA := HG.out rfl
            rw [Nat.sub_self] at hA
            by_cases hpb : p < b.length
            · rw [unpackGo_long (by intro h; have := congrArg List.length h; simp at this; omega)] at hA
              have HA := Lib.hid hA
              clear hA
              go_wp2_with (fail)
              go_region_held3 (fun w' => w'.cell? ⟨g, 0, none⟩ = some (strV b) ∧ w'.cell? ⟨g, 1, none⟩ = some (.int .i64 p)) (first | go_keep | exact ⟨hRe.cell 0, hRe.cell 1⟩)
                ((go_at_call 35; refine (rdFail_to (w := wr.drew) (f := 3) (n1 := 3) hR (by rw [decide_eq_true (by have := HBL.out; omega)]; exact rdF_yes.symm)).mono ?_; rintro e y1 ⟨rfl, hRe, hge⟩))
              have d2 := hRe.cell 2
              simp only [List.getElem?_cons_zero, List.getElem?_cons_succ] at d2
              replace hbel := hbel.drew.trans (grown_below hge hbs0 hR.lt)
              clear hge
              go_wp2_with (fail)
              go_quiet (fail)
              go_wp2
              go_ret2
              rw [HA.out]
              exact RefUnpackPost_none (below_drewN hbel _)
            · rw [unpackGo_end (List.drop_eq_nil_of_le (by omega))] at hA
              have HA := Lib.hid hA
              clear hA
              go_wp2_with (fail)
              go_region_held3 (fun w' => w'.cell? ⟨g, 0, none⟩ = some (strV b) ∧ w'.cell? ⟨g, 1, none⟩ = some (.int .i64 p)) (first | go_keep | exact ⟨hRe.cell 0, hRe.cell 1⟩)
                ((go_at_call 35; refine (rdFail_to (w := wr.drew) (f := 3) (n1 := 0) hR (by rw [decide_eq_false (by have := HBL.out; omega)]; exact rdF_no.symm)).mono ?_; rintro e y1 ⟨rfl, hRe, hge⟩))
              have d2 := hRe.cell 2
              simp only [List.getElem?_cons_zero, List.getElem?_cons_succ] at d2
              replace hbel := hbel.drew.trans (grown_below hge hbs0 hR.lt)
              replace hown := (World.ownsRow.drew hown).kept hge HO.out
              clear hge
              go_wp2_with (fail)
              go_ret2
              rw [HA.out]
              exact ⟨u6, rfl, hown, hbel⟩
          · have hA := HN.out hno
            have HA := Lib.hid hA
            have hne : ((no : Int) != 0) = true := by simp; omega
            have hne2 : ((no : Int) == 0) = false := by simp; omega
            clear hA
            go_wp2_with (fail)
            go_region_held3 (fun w' => w'.cell? ⟨g, 0, none⟩ = some (strV b) ∧ w'.cell? ⟨g, 1, none⟩ = some (.int .i64 p)) (first | go_keep | exact ⟨hRe.cell 0, hRe.cell 1⟩)
              ((go_at_call 35; refine (rdFail_to (w := wr.drew) (f := 3) (n1 := no) hR (rdF_bad hno).symm).mono ?_; rintro e y1 ⟨rfl, hRe, hge⟩))
            have d2 := hRe.cell 2
            simp only [List.getElem?_cons_zero, List.getElem?_cons_succ] at d2
            replace hbel := hbel.drew.trans (grown_below hge hbs0 hR.lt)
            clear hge
            go_wp2_with (fail)
            go_quiet (fail)
            go_wp2
            go_ret2
            rw [HA.out]
            exact RefUnpackPost_none (below_drewN hbel _)
    · have hq : ((str t).toList == (str (crcTail b)).toList) = false := by rw [toList_str, toList_str]; simpa using hsum
      have HA2 := Lib.hid (HA.out.trans (if_pos hsum))
      have HS := Lib.hid hsum
      clear HA hsum
      go_enter Tryz.func13, Tryz.ntmps13
      go_wp2_with (fail)
      go_region_held3 (fun _ => True) (trivial) (first
        | (go_at_call 5; refine (refSum_any b _ (by omega)).mono ?_; rintro e w5 ⟨rfl, rfl⟩)
        | (go_at_call 33; refine (reffour_any (crc b) _).mono ?_; rw [HF.out]; rintro e w6 ⟨rfl, hb6⟩))
      go_wp2_with (fail)
      go_ret2
      rw [HA2.out]
      exact RefUnpackPost_none (below_undrew hb6)
end Go.Proofs.YtifdibkpaeocfaaGreatDoor
