/- The walk of the statement CodecUnpacks. -/
import Derived.Test.YtifdibkpaeocfaaGreatDoorBook
import Derived.Test.YtifdibkpaeocfaaGreatDoorRefUnpack
import Derived.Test.YtifdibkpaeocfaaGreatDoorOnce
import Derived.Test.YtifdibkpaeocfaaGreatDoorPlain
import Derived.Test.YtifdibkpaeocfaaGreatDoorStr
import Derived.Test.YtifdibkpaeocfaaGreatDoorRefPk
namespace Go.Proofs.YtifdibkpaeocfaaGreatDoor
open Go.RowKit

theorem textsL_no (s : List UInt8) : (textsL s).2.2 ≤ 25 := by
  unfold textsL
  split
  · rename_i h
    have := (readU_bad0 s 0 0 h).2.2
    show (readU 0 0 s).2.2 ≤ 25
    omega
  · split
    · show 2 ≤ 25; omega
    · show 0 ≤ 25; omega
theorem pairL_no (s key : List UInt8) (f : Bool) : (pairL s key f).2.2 ≤ 25 := by
  unfold pairL
  split
  · rename_i h
    have := (readU_bad0 s 0 0 h).2.2
    show (readU 0 0 s).2.2 ≤ 25
    omega
  · split
    · show 4 ≤ 25; omega
    · split
      · exact textsL_no _
      · split
        · show 4 ≤ 25; omega
        · split
          · exact textsL_no _
          · show 0 ≤ 25; omega
theorem unpackGo_no : ∀ (d i : Nat) (s key : List UInt8) (size : Nat) (acc : List PairL), (unpackGo d i s key size acc).2 ≤ 25
  | 0, i, s, key, size, acc => by
    unfold unpackGo
    split
    · show 0 ≤ 25; omega
    · show 3 ≤ 25; omega
  | d + 1, i, s, key, size, acc => by
    unfold unpackGo
    split
    · exact pairL_no _ _ _
    · split
      · show 5 ≤ 25; omega
      · exact unpackGo_no d _ _ _ _ _
theorem unpackL_no (l : List UInt8) : (unpackL l).2 ≤ 25 := by
  unfold unpackL
  split
  · show 2 ≤ 25; omega
  · split
    · show 7 ≤ 25; omega
    · unfold unpackBody
      split
      · rename_i h
        have := (readU_bad0 _ 0 0 h).2.2
        show (readU 0 0 _).2.2 ≤ 25
        omega
      · exact unpackGo_no _ _ _ _ _ _
theorem Unpack_facts (l : List UInt8) : ∃ r no, Hid (unpackL l = (r, no)) ∧ no ≤ 25 ∧ r.length ≤ l.length ∧ sizeL r ≤ 268435456 := by
  have hn := unpackL_no l
  rcases Unpack_split l with ⟨no, hno, hu⟩ | ⟨r, out, hu, hp, hlo, hs, hrl⟩
  · rw [hu] at hn
    exact ⟨[], no, hu, hn, by simp, by simp [sizeL]⟩
  · exact ⟨r, 0, hu, by omega, hrl, hs⟩
theorem ownsRow_mono {w : World} {B B' : Nat} {e : TypeId} {size : Nat} {v : Value} {n : Nat} {xs : List Value} (h : w.ownsRow B e size v n xs) (hB : B' ≤ B) : w.ownsRow B' e size v n xs := by
  refine ⟨h.1, ?_⟩
  rcases h.2 with h2 | ⟨g, cap, cur, hv, hb, r⟩
  · exact Or.inl h2
  · exact Or.inr ⟨g, cap, cur, hv, by omega, r⟩
theorem ownsRow_twice {w w1 w' : World} {B : Nat} {e : TypeId} {size : Nat} {v : Value} {n : Nat} {xs : List Value} {o : Option Nat} {K : Nat} (h : w.ownsRow B e size v n xs) (h1 : w.grownBy w1 o) (h2 : w1.grownBy w' (some K)) (ho : o = none ∨ o ≠ v.ownBlock) (hK : v.ownBlock ≠ some K) : w'.ownsRow B e size v n xs :=
  ownsRow_far (ownsRow_far h h1 ho) h2 (Or.inr fun e => hK e.symm)
theorem below_twice {w w1 w' : World} {B K : Nat} {o : Option Nat} (h1 : w.grownBy w1 o) (h2 : w1.grownBy w' (some K)) (ho : ∀ b, o = some b → B ≤ b) (hB : B ≤ w.heap.size) (hK : B ≤ K) : Below B w w' :=
  ⟨h2.os.trans h1.os, h2.tape.trans h1.tape, h2.output.trans h1.output, Nat.le_trans h1.size h2.size, fun k hk => by
    rw [h2.block k (by have := h1.size; omega) (fun e => by simp at e; omega), h1.block k (by omega) (fun e => by have := ho k e.symm; omega)]⟩
theorem ownsRow_shape {w : World} {B : Nat} {e : TypeId} {size : Nat} {v : Value} {n : Nat} {xs : List Value} (h : w.ownsRow B e size v n xs) : ∃ a cap, v = .slice a n cap := by
  rcases h.2 with ⟨h1, h2⟩ | ⟨g, cap, cur, hv, _⟩
  · exact ⟨none, 0, by rw [h1, h2]⟩
  · exact ⟨_, _, hv⟩

set_option maxHeartbeats 2000000 in
set_option maxRecDepth 100000 in
theorem reads_any (l : List UInt8) (w : World) (hl : l.length ≤ 65536) (hg : ErrorLaid w) : Calls Tryz.prog 6 #[.string (str l)] w fun e w' => e = .returned (.bool true) ∧ Below w.heap.size w w' := by
  obtain ⟨r, no, HU, hno, hrl, hsz⟩ := Unpack_facts l
  go_enter Tryz.func6, Tryz.ntmps6
  go_wp2_with (fail)
  refine (refUnpack_any l _ hl).mono ?_
  rw [HU.out]
  rintro e w1 ⟨v, rfl, hown, hB⟩
  dsimp only at hown
  have hat := PairsAt.own hown
  have hwant := hat
  obtain ⟨va, vc, rfl, hc⟩ := hat
  have HC := Lib.hid hc
  clear hc hown
  go_wp2_with (fail)
  go_loop [5, 6] (fun n i => ∃ k x : Nat, i = .int .i64 k ∧ n = .int .i64 x ∧ k ≤ r.length ∧ x ≤ sizeL (r.take k)) (fun _ i => r.length - (intOf i).toNat)
  case atStart => exact ⟨0, 0, rfl, rfl, by omega, by omega⟩
  case round =>
    obtain ⟨k, x, rfl, rfl, hk, hx⟩ := hrel
    have hxs := sizeL_take_le r k
    by_cases hlt : k < r.length
    · obtain ⟨p, hp⟩ : ∃ p, r[k]? = some p := ⟨_, List.getElem?_eq_getElem hlt⟩
      obtain ⟨b, off, rfl, h1, h2⟩ := HC.out k p hp
      have hst := sizeL_take hp
      have hst2 := sizeL_take_le r (k + 1)
      have hle : x + p.1.length ≤ sizeL (r.take (k + 1)) := by omega
      have HST := Lib.hid hst
      clear hst hp h2 hx
      have ep := str_size p.1
      generalize p.1 = pk at *
      have hpb : pk.length ≤ 268435456 := by omega
      go_wp2
      go_round
      case rel => exact ⟨k + 1, x + pk.length, by go_num, by go_num, by omega, hle⟩
      case measure => simp [intOf]; omega
    · by_cases hx2 : 1048576 < x
      · go_wp2
        go_ret
        exact ⟨rfl, hB⟩
      · go_wp2_with (fail)
        refine (Unpack_any l _ (by omega)).mono ?_
        rw [HU.out]
        rintro e w2 ⟨a, rfl, howna, hB2, _⟩
        dsimp only at howna
        obtain ⟨aa, ca, rfl⟩ := ownsRow_shape howna
        have hz1 := hB.size
        have hwant2 := hwant.below hB2
        replace hB2 := hB.trans (hB2.mono hz1)
        have hz2 := hB2.size
        clear hwant HC hxs hx
        go_wp2_with (fail)
        refine (Unpack_any l _ (by omega)).mono ?_
        rw [HU.out]
        rintro e w3 ⟨b, rfl, hownb, hB3, _⟩
        dsimp only at hownb
        obtain ⟨ab, cb, rfl⟩ := ownsRow_shape hownb
        have hwant3 := hwant2.below hB3
        have howna3 := keepOwns howna hB3
        have hla : ∀ k, (Value.slice aa r.length ca).ownBlock = some k → k < w2.heap.size := fun k hk => (howna.lt k hk).2
        have hlb : ∀ k, (Value.slice ab r.length cb).ownBlock = some k → w2.heap.size ≤ k ∧ k < w3.heap.size := fun k hk => hownb.lt k hk
        have hz23 := hB3.size
        replace hB3 := hB2.trans (hB3.mono hz2)
        have hz3 := hB3.size
        have hg3 := hg.below hB3
        have hown3 := ownsRow_mono howna3 (B' := w.heap.size) hz1
        have hownb3 := ownsRow_mono hownb (B' := w.heap.size) hz2
        have hB4 := hB3.alloc hz3 (.cells (bookCells (.slice none 0 0)).toArray 63)
        have hbk4 : BookAt (w3.alloc (.cells (bookCells (.slice none 0 0)).toArray 63)) w3.heap.size (.slice none 0 0) := Blk.new w3 _ _
        have hB34 := (Below.refl w3.heap.size w3).alloc (Nat.le_refl _) (.cells (bookCells (.slice none 0 0)).toArray 63)
        have hz4 : (w3.alloc (.cells (bookCells (.slice none 0 0)).toArray 63)).heap.size = w3.heap.size + 1 := by simp
        have hbe : (bookCells (.slice none 0 0)).toArray = #[.slice none 0 0, .slice none 0 0, .slice none 0 0, .slice none 0 0, .slice none 0 0, .slice none 0 0, .slice none 0 0, .slice none 0 0, .slice none 0 0, .slice none 0 0, .slice none 0 0, .slice none 0 0, .slice none 0 0, .slice none 0 0, .slice none 0 0, .slice none 0 0, .slice none 0 0, .slice none 0 0, .slice none 0 0, .slice none 0 0, .slice none 0 0, .slice none 0 0, .slice none 0 0, .slice none 0 0] := rfl
        rw [hbe] at hB4 hbk4 hB34 hz4
        have HLA := Lib.hid hla
        have HLB := Lib.hid hlb
        have HZ4 := Lib.hid hz4
        clear hwant2 howna howna3 hownb hla hlb hz4 hbe
        go_wp2_with (fail)
        generalize w3.alloc (.cells #[.slice none 0 0, .slice none 0 0, .slice none 0 0, .slice none 0 0, .slice none 0 0, .slice none 0 0, .slice none 0 0, .slice none 0 0, .slice none 0 0, .slice none 0 0, .slice none 0 0, .slice none 0 0, .slice none 0 0, .slice none 0 0, .slice none 0 0, .slice none 0 0, .slice none 0 0, .slice none 0 0, .slice none 0 0, .slice none 0 0, .slice none 0 0, .slice none 0 0, .slice none 0 0, .slice none 0 0] 63) = w4 at *
        generalize hK3 : w3.heap.size = K at *
        have HK := Lib.hid hK3
        clear hK3
        refine (BookPairs_any w4 w.heap.size K 0 (.slice none 0 0) [] aa r.length ca hbk4 (World.ownsRow_nil _ _ _ _) hB4.size (by simp [Value.ownBlock]) (by omega)).mono ?_
        rintro e w5 ⟨rfl, g1, c1, x1, hbk5, hs5, hg1K, hl1, gr1, gr2⟩
        have hg1 : K < g1 := by
          rcases hl1 with h | h
          · cases h
          · have := HZ4.out; omega
        have hz45 := Nat.le_trans gr1.size gr2.size
        have hB45 : Below K w4 w5 := below_twice gr1 gr2 (fun b hb => by cases hb) (by have := HZ4.out; omega) (Nat.le_refl _)
        replace hB34 := hB34.trans hB45
        replace hB4 := hB4.trans (hB45.mono hz3)
        clear hbk4 gr1 gr2 hB45 hl1
        go_wp2_with (fail)
        refine (BookPairs_any w5 w.heap.size K 1 (.slice (some ⟨g1, 0, none⟩) (0 + 1) c1) _ ab r.length cb hbk5 hs5 hB4.size (by simpa [Value.ownBlock] using hg1K) (by omega)).mono ?_
        rintro e w6 ⟨rfl, g2, c2, x2, hbk6, hs6, hg2K, hl2, gr1, gr2⟩
        have hg2 : K < g2 := by
          rcases hl2 with h | h
          · have : g1 = g2 := by simpa [Value.ownBlock] using h
            omega
          · have := HZ4.out; omega
        have hB56 : Below K w5 w6 := below_twice gr1 gr2 (fun b hb => by
          have : g1 = b := by simpa [Value.ownBlock] using hb
          omega) (by have := HZ4.out; omega) (Nat.le_refl _)
        replace hB34 := hB34.trans hB56
        replace hB4 := hB4.trans (hB56.mono hz3)
        have hB36 : Below w3.heap.size w3 w6 := by rw [HK.out]; exact hB34
        have hwant6 := hwant3.below hB36
        have hown6 := keepOwns hown3 hB36
        have hownb6 := keepOwns hownb3 hB36
        have hg6 := hg3.below hB36
        clear hbk5 hs5 gr1 gr2 hB56 hl2 hB34 hwant3 hown3 hownb3 hg3 hg2K hg1K
        go_wp2_with (fail)
        refine (Plain_same no _ hno hg6).mono ?_
        rintro e w7 ⟨rfl, hb⟩
        have hwant7 := hwant6.below hb
        have hown7 := keepOwns hown6 hb
        have hownb7 := keepOwns hownb6 hb
        have hs7 := keepOwns hs6 hb
        have hbk7 : BookAt w7 K _ := Blk.below hbk6 hb hbk6.lt
        have hB7 := hB4.trans (hb.mono hB4.size)
        have hg7 := hg6.below hb
        clear hwant6 hown6 hownb6 hs6 hbk6 hg6 hb hB4
        go_wp2_with (fail)
        refine (Plain_same no _ hno hg7).mono ?_
        rintro e w8 ⟨rfl, hb⟩
        have hwant8 := hwant7.below hb
        have hown8 := keepOwns hown7 hb
        have hownb8 := keepOwns hownb7 hb
        have hs8 := keepOwns hs7 hb
        have hbk8 : BookAt w8 K _ := Blk.below hbk7 hb hbk7.lt
        have hB8 := hB7.trans (hb.mono hB7.size)
        clear hwant7 hown7 hownb7 hs7 hbk7 hg7 hb hB7
        go_wp2_with (fail)
        refine (SamePairs_any r r _ _ _ (PairsAt.own hown8) hwant8 (by omega)).mono ?_
        rintro e w9 ⟨rfl, hb⟩
        have hwant9 := hwant8.below hb
        have hown9 := keepOwns hown8 hb
        have hownb9 := keepOwns hownb8 hb
        have hs9 := keepOwns hs8 hb
        have hbk9 : BookAt w9 K _ := Blk.below hbk8 hb hbk8.lt
        have hB9 := hB8.trans (hb.mono hB8.size)
        clear hwant8 hown8 hownb8 hs8 hbk8 hb hB8
        go_wp2_with (fail)
        refine (SamePairs_any r r _ _ _ (PairsAt.own hownb9) hwant9 (by omega)).mono ?_
        rintro e wa ⟨rfl, hb⟩
        have howna := keepOwns hown9 hb
        have hownba := keepOwns hownb9 hb
        have hsa := keepOwns hs9 hb
        have hbka : BookAt wa K _ := Blk.below hbk9 hb hbk9.lt
        have hBa := hB9.trans (hb.mono hB9.size)
        clear hwant9 hown9 hownb9 hs9 hbk9 hb hB9
        have hF : Fam wa w.heap.size g2 2 (fun k => if k = 0 then .slice aa r.length ca else .slice ab r.length cb) (fun _ => r.length) (fun _ => r) := by
          have hq : ∀ k, k < 2 → k = 0 ∨ k = 1 := fun k hk => by omega
          refine ⟨fun k hk => ?_, fun k hk => rfl, fun k hk => ?_, fun k hk => ?_, fun j k hj hk hne => ?_, (hsa.lt g2 rfl).2⟩
          · rcases hq k hk with rfl | rfl
            · exact hsa.cellAt 0 (by omega)
            · exact hsa.cellAt 1 (by omega)
          · rcases hq k hk with rfl | rfl
            · exact howna
            · exact hownba
          · rcases hq k hk with rfl | rfl
            · intro e; have := HLA.out g2 e; omega
            · intro e; have := HLB.out g2 e; omega
          · have hd : ∀ x, (Value.slice aa r.length ca).ownBlock = some x → (Value.slice ab r.length cb).ownBlock ≠ some x := fun x h1 h2 => by
              have := HLA.out x h1
              have := HLB.out x h2
              omega
            rcases hq j hj with rfl | rfl
            · rcases hq k hk with rfl | rfl
              · exact absurd rfl hne
              · show (Value.slice aa r.length ca).ownBlock = none ∨ (Value.slice aa r.length ca).ownBlock ≠ (Value.slice ab r.length cb).ownBlock
                cases ho : (Value.slice aa r.length ca).ownBlock with
                | none => exact Or.inl rfl
                | some x => exact Or.inr fun e => hd x ho e.symm
            · rcases hq k hk with rfl | rfl
              · show (Value.slice ab r.length cb).ownBlock = none ∨ (Value.slice ab r.length cb).ownBlock ≠ (Value.slice aa r.length ca).ownBlock
                cases ho : (Value.slice ab r.length cb).ownBlock with
                | none => exact Or.inl rfl
                | some x => exact Or.inr fun e => hd x e.symm ho
              · exact absurd rfl hne
        go_wp2_with (fail)
        refine (BookApart_any wa w.heap.size g2 K c2 2 _ _ _ hF (by omega) (fun k hk => by omega) hBa.size (fun k hk => ?hfar) hbka).mono ?_
        case hfar =>
          rcases (by omega : k = 0 ∨ k = 1) with rfl | rfl
          · intro e; have := HLA.out K e; omega
          · intro e; have := HLB.out K e; omega
        rintro e wb ⟨rfl, hb⟩
        go_wp2
        go_ret
        exact ⟨rfl, hBa.trans hb⟩

set_option maxHeartbeats 1000000 in
set_option maxRecDepth 100000 in
theorem CodecUnpacks_any (l : List UInt8) (w : World) (hl : l.length ≤ 9223372036854775807) (hg : ErrorLaid w) : Calls Tryz.prog 3 #[.string (str l)] w fun e w' => e = .returned (.bool true) ∧ Below w.heap.size w w' := by
  have e1 := str_size l
  by_cases hbig : 16384 < l.length
  · go_enter Tryz.func3, Tryz.ntmps3
    go_wp2
    go_ret
    exact ⟨rfl, Below.refl _ _⟩
  · have hadd := add_run l (crcTail l) (by show l.length + 4 ≤ _; omega)
    have hrl : (l ++ crcTail l).length ≤ 65536 := by rw [List.length_append]; show l.length + 4 ≤ _; omega
    have hfour : fourL (crc l) = crcTail l := rfl
    have hcv : ∀ w1 : World, (convert 26 9 (.slice (some ⟨w1.heap.size, 0, none⟩) 4 4)).run Tryz.prog (w1.alloc (.cells #[Value.int .u8 ((crc l : Int) % 256), Value.int .u8 ((crc l : Int) / 256 % 256), Value.int .u8 ((crc l : Int) / 65536 % 256), Value.int .u8 ((crc l : Int) / 16777216 % 256)] 5)) = .ok (strV (crcTail l)) (w1.alloc (.cells #[Value.int .u8 ((crc l : Int) % 256), Value.int .u8 ((crc l : Int) / 256 % 256), Value.int .u8 ((crc l : Int) / 65536 % 256), Value.int .u8 ((crc l : Int) / 16777216 % 256)] 5)) := fun w1 => by
      rw [← hfour]
      refine conv_bytes (Blk.new w1 [_, _, _, _] 5) Tryz.underlying26 Tryz.underlying5 Tryz.underlying9 (fourL (crc l)) [] 4 4 rfl ?_
      rw [four_cells, fourL, List.append_nil]
    clear hfour
    go_enter Tryz.func3, Tryz.ntmps3
    go_wp2_with (fail)
    refine (refSum_any l _ (by omega)).mono ?_
    rintro e w1 ⟨rfl, rfl⟩
    go_wp2_with (fail)
    refine (reads_any l _ (by omega) hg).mono ?_
    rintro e w1 ⟨rfl, hB⟩
    have hg1 := hg.below hB
    have hz := hB.size
    have hcv1 := hcv w1
    have hB2 := hB.alloc hz (.cells #[Value.int .u8 ((crc l : Int) % 256), Value.int .u8 ((crc l : Int) / 256 % 256), Value.int .u8 ((crc l : Int) / 65536 % 256), Value.int .u8 ((crc l : Int) / 16777216 % 256)] 5)
    have hg2 := hg1.below ((Below.refl w1.heap.size w1).alloc (Nat.le_refl _) (.cells #[Value.int .u8 ((crc l : Int) % 256), Value.int .u8 ((crc l : Int) / 256 % 256), Value.int .u8 ((crc l : Int) / 65536 % 256), Value.int .u8 ((crc l : Int) / 16777216 % 256)] 5))
    clear hcv
    go_wp2_with (fail)
    refine (reads_any (l ++ crcTail l) _ hrl hg2).mono ?_
    rintro e w3 ⟨rfl, hb⟩
    have hB3 := hB2.trans (hb.mono hB2.size)
    go_wp2_with (fail)
    refine (works_any _).mono ?_
    rintro e w4 ⟨rfl, hb4⟩
    go_wp2
    go_ret
    exact ⟨rfl, hB3.trans (hb4.mono hB3.size)⟩
end Go.Proofs.YtifdibkpaeocfaaGreatDoor
