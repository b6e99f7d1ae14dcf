/- The walks of the codec's texts, pair and Unpack, over this translation. -/
import Derived.Test.YtifdibkpaeocfaaGreatDoorB2
import Derived.Test.YtifdibkpaeocfaaGreatDoorUnp
import Derived.Stop.IfaceNil
import Derived.WalkLawsBesides
import Derived.Deep.DeepCutAuto
import Derived.Lib.BufferWrite
import Derived.Lib.UnsafeStr
namespace Go.Proofs.YtifdibkpaeocfaaGreatDoor
open Go.RowKit

theorem errV_some {n : Nat} (h : n ≠ 0) : errV n = .iface 90 (.int .i64 n) := by rw [errV, if_neg h]
theorem errV_none : errV 0 = .nilIface := rfl
theorem ReadUint_str (l : List UInt8) (w : World) (hs : l.length ≤ 9223372036854775807) : Calls Tryz.prog 20 #[.string (str l), .int .i64 0] w fun e w' => e = .returned (.tuple #[.int .u64 (readU 0 0 l).1, .int .i64 (readU 0 0 l).2.1, errV (readU 0 0 l).2.2]) ∧ w = w' :=
  ReadUint_in (str l) 0 w (Nat.zero_le _) (by rw [str_size]; exact hs)

set_option maxRecDepth 100000 in
theorem texts_any (l : List UInt8) (w : World) (hs : l.length ≤ 140737488351232) : Calls Tryz.prog 82 #[.string (str l)] w fun e w' => e = .returned (.tuple #[strV (textsL l).1, strV (textsL l).2.1, errV (textsL l).2.2]) ∧ Below w.heap.size w w' := by
  have hR := ReadUint_str l w (by omega)
  have e1 := str_size l
  by_cases h0 : (readU 0 0 l).2.2 = 0
  · obtain ⟨q1, q2, q3, q4⟩ := readU_ok h0
    by_cases h2 : l.length - (readU 0 0 l).2.1 < (readU 0 0 l).1
    · rw [textsL_short h0 h2]
      rw [h0, errV_none] at hR
      have HR := Lib.hid hR
      clear hR h0
      generalize (readU 0 0 l).2.1 = x at *
      generalize (readU 0 0 l).1 = n at *
      go_enter Tryz.func82, Tryz.ntmps82
      go_wp2_with (fail)
      refine HR.out.mono ?_
      rintro e w1 ⟨rfl, rfl⟩
      go_wp2
      go_ret3
      exact ⟨rfl, Below.refl _ _⟩
    · rw [textsL_ok h0 h2]
      rw [h0, errV_none] at hR
      have HR := Lib.hid hR
      clear hR h0
      generalize (readU 0 0 l).2.1 = x at *
      generalize (readU 0 0 l).1 = n at *
      go_enter Tryz.func82, Tryz.ntmps82
      go_wp2_with (fail)
      refine HR.out.mono ?_
      rintro e w1 ⟨rfl, rfl⟩
      have hw1 : IntKind.i64.wrap (n : Int) = n := IntWalk.i64_in _ (by omega)
      have hp1 : (0 : Int) ≤ (x : Int) + n := by omega
      have hp2 : ((x : Int) + n).toNat = x + n := by omega
      have hp3 : (x : Int) + n ≤ l.length := by omega
      have hp4 : (x : Int) ≤ (x : Int) + n := by omega
      have hw2 : IntKind.i64.wrap ((x : Int) + n) = (x : Int) + n := IntWalk.i64_in _ (by omega)
      go_wp2
      go_quiet (fail)
      go_wp2
      go_ret3
      rw [str_extract, str_extract_to]
      have e3 : (l.take (x + n)).drop x = (l.drop x).take n := by rw [List.drop_take]; congr 1; omega
      rw [e3]
      exact ⟨rfl, below_drewN (Below.refl _ _) _⟩
  · obtain ⟨q1, q2, q3⟩ := readU_bad0 l 0 0 h0
    rw [textsL_err h0]
    rw [errV_some h0, q1, q2] at hR
    have HR := Lib.hid hR
    rw [errV_some h0]
    have H0 := Lib.hid h0
    clear hR q1 q2 h0 q3
    go_enter Tryz.func82, Tryz.ntmps82
    go_wp2_with (fail)
    refine HR.out.mono ?_
    rintro e w1 ⟨rfl, rfl⟩
    go_wp2
    go_ret3
    exact ⟨rfl, Below.refl _ _⟩

theorem infoByteU : (Tryz.prog.info? 5).map (fun i => (i.zero, i.size, i.bytes)) = some (some (.int .u8 0), 1, 1) := by kernel_rfl
theorem sizeByteU : (Tryz.prog.info? 5).map (·.size) = some 1 := by kernel_rfl
theorem cellsByteU : Tryz.prog.cellsOf 5 = 1 := by kernel_rfl
theorem size_str' (l : List UInt8) : (str l).data.toList = l := rfl

/-- A row of so many noughts. -/
def zerosV (n : Nat) : List Value := List.replicate n (.int .u8 0)
theorem madeBytes (n : Nat) : madeCells (Value.int .u8 0).cells n = (zerosV n).toArray := by
  apply Array.ext
  · simp [size_madeCells, zerosV]
  · intro i h1 h2
    simp [madeCells, Value.cells, zerosV, Nat.mod_one]
theorem make_bytes (W : World) (n : Nat) (hn : n ≤ 281474976710656) (x : Int) (hx : x = n) : (Instr.makeSlice 26 (.int .i64 x) (.int .i64 x)).run Tryz.prog W = .ok (.slice (some ⟨W.heap.size, 0, none⟩) n n) (W.alloc (.cells (zerosV n).toArray 5)) := by
  subst hx
  obtain ⟨i0, hi, hz0, hz1, hz2⟩ := info_parts infoByteU
  have h := run_make (P := Tryz.prog) W 26 5 i0 (.int .u8 0) Tryz.underlying26 hi hz0 .i64 .i64 (n : Int) (n : Int) (by omega) (by omega) (by rw [hz2]; omega) (by omega)
  rw [hz1, Nat.mul_one, Int.toNat_natCast, madeBytes] at h
  exact h
/-- A text copied into a row. -/
theorem copy_text {w : World} {g : Nat} {xs : List Value} (h : Blk w g xs 5) (o dLen dCap : Nat) (t : List UInt8) (ht : t.length ≤ dLen) (hf : o + t.length ≤ xs.length) (ty : TypeId) :
    (Builtin.copy_ #[26, 9] ty #[.slice (some ⟨g, o, none⟩) dLen dCap, .string (str t)]).run Tryz.prog w = .ok (.int .i64 t.length) (w.setRow g (xs.take o ++ t.map byteV ++ xs.drop (o + t.length)).toArray) := by
  have := Lib.run_copy_row_string (P := Tryz.prog) w 26 9 ty 5 g o dLen dCap (str t) xs.toArray 5 Tryz.underlying26 sizeByteU h (by rw [str_size]; exact ht) (by rw [str_size]; simpa using hf)
  rw [str_size] at this
  exact this
theorem below_setRow {B : Nat} {a w : World} (h : Below B a w) {g : Nat} (hg : B ≤ g) (cs : Array Value) : Below B a (w.setRow g cs) :=
  h.trans ⟨rfl, rfl, rfl, by simp [World.setRow], fun k hk => setRow_other _ _ _ _ (by omega)⟩
theorem Blk.setRow {w : World} {b : Nat} {xs ys : List Value} {t : TypeId} (h : Blk w b xs t) : Blk (w.setRow b ys.toArray) b ys t := setRow_heap w b _ _ t _ h

set_option maxHeartbeats 400000 in
set_option maxRecDepth 100000 in
theorem slClone_any (l : List UInt8) (w : World) (hlim : l.length ≤ 281474976710656) :
    Calls Tryz.prog 116 #[.string (str l)] w fun e w' => e = .returned (strV l) ∧ Below w.heap.size w w' := by
  have e1 := str_size l
  by_cases h0 : l = []
  · subst h0
    go_enter Tryz.func116, Tryz.ntmps116
    go_wp2
    go_ret
    exact ⟨rfl, Below.refl _ _⟩
  · have hl0 : 0 < l.length := List.length_pos_iff.2 h0
    have hmk := make_bytes w l.length hlim (l.length : Int) rfl
    have hz := Blk.new w (zerosV l.length) 5
    have hcp := copy_text hz 0 l.length l.length l (Nat.le_refl _) (by simp [zerosV]) 3
    have hrow : (zerosV l.length).take 0 ++ l.map byteV ++ (zerosV l.length).drop (0 + l.length) = l.map byteV := by simp [zerosV]
    rw [hrow] at hcp
    have hY := Blk.setRow (ys := l.map byteV) hz
    have hUS := Lib.run_unsafeString_row (P := Tryz.prog) ((w.alloc (.cells (zerosV l.length).toArray 5)).setRow w.heap.size (l.map byteV).toArray) 234 3 9 5 Tryz.underlying234 cellsByteU w.heap.size l.length (by unfold Blk at hY; unfold World.shape?; rw [hY]; simp) l h0 (Nat.le_refl _) (by omega)
      (fun j x hx => by
        have hj : (⟨w.heap.size, 0, none⟩ : Addr).add j = ⟨w.heap.size, j, none⟩ := by simp [Addr.add]; omega
        rw [hj, hY.cell, List.getElem?_map, hx]; rfl)
    have hbel : Below w.heap.size w ((w.alloc (.cells (zerosV l.length).toArray 5)).setRow w.heap.size (l.map byteV).toArray) := below_setRow ((Below.refl _ w).alloc (Nat.le_refl _) _) (Nat.le_refl _) _
    clear hY hz hrow h0
    go_enter Tryz.func116, Tryz.ntmps116
    go_wp2
    go_ret
    exact ⟨rfl, Lib.below_freeze hbel (p := ⟨w.heap.size, 0, none⟩) (Nat.le_refl _) _⟩
set_option maxRecDepth 100000 in
theorem Clone_any (l : List UInt8) (w : World) (hlim : l.length ≤ 281474976710656) :
    Calls Tryz.prog 83 #[.string (str l)] w fun e w' => e = .returned (strV l) ∧ Below w.heap.size w w' := by
  go_enter Tryz.func83, Tryz.ntmps83
  go_wp2_with (fail)
  refine (slClone_any l _ hlim).mono ?_
  rintro e w1 ⟨rfl, hb⟩
  go_wp2
  go_ret
  exact ⟨rfl, hb⟩

theorem infoPair : (Tryz.prog.info? 33).map (·.size) = some 2 := by kernel_rfl
theorem pair_results (tmps : Array Value) (w : World) (g : Nat) (x y : Value) (tt : TypeId)
    (hp : tmps.getD 6 undef = .pointer (some ⟨g, 0, none⟩)) (hg : Blk w g [x, y] tt) :
    (results Tryz.f39 tmps).run Tryz.prog w = .ok (.tuple #[.agg #[x, y], tmps.getD 7 undef, tmps.getD 8 undef]) w := by
  have hp' : tmps[6]?.getD undef = .pointer (some ⟨g, 0, none⟩) := by simpa using hp
  have hl : (loadVar 33 ⟨g, 0, none⟩).run Tryz.prog w = .ok (.agg #[x, y]) w := run_loadVar_row w g tt _ #[x, y] (0, 0) _ hg Tryz.underlying33 rfl infoPair
  simp [results, Tryz.results39, hp', asAddr, hl]
/-- What pair answers. -/
def pairV (p : PairL) : Value := .agg #[strV p.1, strV p.2]
/-- The row, the key's beginning copied in. -/
theorem row_one (a : List UInt8) (m : Nat) : (zerosV m).take 0 ++ a.map byteV ++ (zerosV m).drop (0 + a.length) = a.map byteV ++ zerosV (m - a.length) := by
  simp [zerosV]
theorem row_two (a t : List UInt8) (o : Nat) (ho : (t = [] ∧ o = 0) ∨ o = a.length) : (a.map byteV ++ zerosV (a.length + t.length - a.length)).take o ++ t.map byteV ++ (a.map byteV ++ zerosV (a.length + t.length - a.length)).drop (o + t.length) = (a ++ t).map byteV := by
  rcases ho with ⟨rfl, rfl⟩ | rfl
  · simp [zerosV]
  · simp [zerosV]
set_option maxRecDepth 100000 in
theorem slice_from (g m n : Nat) (h : n ≤ m) : ∃ o, ((m = n ∧ o = 0) ∨ o = n) ∧ ∀ w', (Instr.slice 26 (.slice (some ⟨g, 0, none⟩) m m) (some (.int .i64 (n : Int))) none none).run Tryz.prog w' = .ok (.slice (some ⟨g, o, none⟩) (m - n) (m - n)) w' := by
  refine ⟨if m = n then 0 else n, ?_, ?_⟩
  · by_cases e : m = n
    · left; exact ⟨e, if_pos e⟩
    · right; exact if_neg e
  · intro w'
    have hsz : (sizeOf (Tryz.prog.elem 26)).run Tryz.prog w' = .ok 1 w' := by kernel_rfl
    rw [run_slice_l w' 26 (some ⟨g, 0, none⟩) m m Tryz.underlying26 .i64 (n : Int) (by omega) (by omega), hsz]
    simp only [Result.andThen, sliced, Int.toNat_natCast]
    by_cases e : m = n
    · rw [if_pos e, if_pos e]
    · rw [if_neg e, if_neg e]
      simp [Addr.add]
      omega
set_option maxHeartbeats 2000000 in
set_option maxRecDepth 100000 in
theorem pair_any (l key : List UInt8) (first : Bool) (w : World) (hs : l.length ≤ 140737488351232) (hk : key.length ≤ 140737488351232) : Calls Tryz.prog 39 #[.string (str l), .string (str key), .bool first] w fun e w' => e = .returned (.tuple #[pairV (pairL l key first).1, strV (pairL l key first).2.1, errV (pairL l key first).2.2]) ∧ Below w.heap.size w w' := by
  have e1 := str_size l
  have e2 := str_size key
  have hR := fun w => ReadUint_str l w (by omega)
  by_cases h0 : (readU 0 0 l).2.2 = 0
  · obtain ⟨q1, q2, q3, q4⟩ := readU_ok h0
    rw [h0, errV_none] at hR
    by_cases h2 : key.length < (readU 0 0 l).1
    · rw [pairL_err2 h0 h2]
      have HR := Lib.hid hR
      clear hR h0
      generalize (readU 0 0 l).2.1 = x at *
      generalize (readU 0 0 l).1 = n at *
      go_enter Tryz.func39, Tryz.ntmps39
      go_wp2_with (fail)
      refine (HR.out _).mono ?_
      rintro e w1 ⟨rfl, rfl⟩
      go_wp2
      refine bodyPost_ret (v := .tuple #[.agg #[strV [], strV []], strV [], .iface 90 (.int .i64 4)]) (by simp [results, Tryz.results39, go_sem]; rfl) rfl ⟨rfl, (Below.refl _ _).alloc (Nat.le_refl _) _⟩
    · have hT := fun w => texts_any (l.drop (readU 0 0 l).2.1) w (by simp; omega)
      have hex : (str l).extract (readU 0 0 l).2.1 l.length = str (l.drop (readU 0 0 l).2.1) := str_extract_to l _
      by_cases h3 : (textsL (l.drop (readU 0 0 l).2.1)).2.2 = 0
      · have hbr := Blk.new w [strV [], strV []] 33
        simp only [h3, errV_none] at hT
        have hl1 := (textsL_len (l.drop (readU 0 0 l).2.1)).1
        have hl2 := (textsL_len (l.drop (readU 0 0 l).2.1)).2
        rw [List.length_drop] at hl1 hl2
        have hU := fun w => texts_any (textsL (l.drop (readU 0 0 l).2.1)).2.1 w (by omega)
        have hfine := pairL_fine (f := first) h0 h2 h3
        have herr4 := pairL_err4 (f := first) h0 h2 h3
        have herr5 := pairL_err5 (f := first) h0 h2 h3
        have HF := Lib.hid hfine
        have HE4 := Lib.hid herr4
        have HE5 := Lib.hid herr5
        have HT := Lib.hid hT
        have HU := Lib.hid hU
        have HR := Lib.hid hR
        clear hR h0 hT h3 hfine herr4 herr5 hU
        generalize (textsL (l.drop (readU 0 0 l).2.1)).1 = t1 at *
        generalize (textsL (l.drop (readU 0 0 l).2.1)).2.1 = t2 at *
        generalize (readU 0 0 l).2.1 = x at *
        generalize (readU 0 0 l).1 = n at *
        obtain ⟨m, hm⟩ : ∃ m, m = n + t1.length := ⟨_, rfl⟩
        have hmk : ∀ W : World, (Instr.makeSlice 26 (.int .i64 ((n : Int) + t1.length)) (.int .i64 ((n : Int) + t1.length))).run Tryz.prog W = .ok (.slice (some ⟨W.heap.size, 0, none⟩) m m) (W.alloc (.cells (zerosV m).toArray 5)) := fun W => make_bytes W m (by omega) _ (by rw [hm]; push_cast; rfl)
        have hkn : (key.take n).length = n := by simp; omega
        have hex2 : (str key).extract 0 n = str (key.take n) := by rw [str_extract]; simp
        have e3 := str_size t1
        have e4 := str_size t2
        have HM := Lib.hid hm
        have HKN := Lib.hid hkn
        clear hm hkn
        go_enter Tryz.func39, Tryz.ntmps39
        go_wp2_with (fail)
        refine (HR.out _).mono ?_
        rintro e w1 ⟨rfl, rfl⟩
        go_wp2_with (fail)
        refine (HT.out _).mono ?_
        rintro e w2 ⟨rfl, hb2⟩
        have hbr2 := hbr.below hb2 (by simp)
        have hbe : Below w.heap.size w w2 := ((Below.refl w.heap.size w).alloc (Nat.le_refl _) _).trans (hb2.mono (by simp))
        have hz := Blk.new w2 (zerosV m) 5
        have hcp1 := copy_text hz 0 m m (key.take n) (by rw [HKN.out, HM.out]; omega) (by rw [HKN.out, HM.out]; simp [zerosV]) 3
        rw [row_one, HKN.out] at hcp1
        have hz1 := Blk.setRow (ys := (key.take n).map byteV ++ zerosV (m - n)) hz
        obtain ⟨o, ho, hsl⟩ := slice_from w2.heap.size m n (by rw [HM.out]; omega)
        have ho2 : (t1 = [] ∧ o = 0) ∨ o = (key.take n).length := by
          rw [HKN.out]
          rcases ho with ⟨e, eo⟩ | eo
          · left; have := HM.out; exact ⟨List.length_eq_zero_iff.1 (by omega), eo⟩
          · right; exact eo
        have hcp2 := copy_text hz1 o (m - n) (m - n) t1 (by rw [HM.out]; omega) (by
          have := HM.out
          have := HKN.out
          rcases ho2 with ⟨e, eo⟩ | eo
          · simp [e, eo]
          · simp [zerosV]; omega) 3
        have hr2 := row_two (key.take n) t1 o ho2
        rw [HKN.out, ← HM.out] at hr2
        rw [hr2] at hcp2
        have hz2 := Blk.setRow (ys := (key.take n ++ t1).map byteV) hz1
        have hcv := conv_bytes hz2 Tryz.underlying26 Tryz.underlying5 Tryz.underlying9 (key.take n ++ t1) [] m m (by rw [List.length_append, HKN.out, HM.out]) (by simp)
        have hbe3 : Below w2.heap.size w2 (((w2.alloc (.cells (zerosV m).toArray 5)).setRow w2.heap.size ((key.take n).map byteV ++ zerosV (m - n)).toArray).setRow w2.heap.size ((key.take n ++ t1).map byteV).toArray) := below_setRow (below_setRow ((Below.refl _ _).alloc (Nat.le_refl _) _) (Nat.le_refl _) _) (Nat.le_refl _) _
        clear hr2 hz hz1 hz2 ho ho2
        generalize ((key.take n).map byteV ++ zerosV (m - n)).toArray = R1 at *
        generalize ((key.take n ++ t1).map byteV).toArray = R2 at *
        obtain ⟨bad, hbad⟩ : ∃ bad : Bool, Hid (bad = true ↔ (first = false ∧ kle (key.take n ++ t1) key = true) ∨ cpl key (key.take n ++ t1) ≠ n) := ⟨decide ((first = false ∧ kle (key.take n ++ t1) key = true) ∨ cpl key (key.take n ++ t1) ≠ n), by show _ ↔ _; simp only [decide_eq_true_eq]⟩
        have hnl : (key.take n ++ t1).length = m := by rw [List.length_append, HKN.out, HM.out]
        have HNL := Lib.hid hnl
        clear hnl
        generalize key.take n ++ t1 = nx at *
        have e5 := str_size nx
        have hm48 : m ≤ 281474976710656 := by rw [HM.out]; omega
        rw [HNL.out] at e5
        go_upto_region 12 with (fail)
        go_cut [76] (fun t wx => t = .bool bad ∧ Below w2.heap.size w2 wx)
        case first =>
          have hbsz := hbe3.size
          cases first with
          | true =>
            go_wp2_with (fail)
            refine (shared_any (str key) (str nx) _ (by rw [e2]; omega) (by rw [e5]; omega)).mono ?_
            rintro e w4 ⟨rfl, hb4⟩
            rw [str_data, str_data]
            have hcl := (cpl_le key nx).1
            by_cases hc : cpl key nx = n
            · have hb0 : bad = false := by
                cases hq : bad with
                | false => rfl
                | true => rcases hbad.out.1 hq with ⟨h, _⟩ | h
                          · cases h
                          · exact absurd hc h
              have hc2 : ((cpl key nx : Nat) : Int) = (n : Int) := by rw [hc]
              rw [hc]
              go_wp2_with (fail)
              go_meet
              exact ⟨by rw [hb0], hbe3.trans (hb4.mono hbsz)⟩
            · have hb0 : bad = true := hbad.out.2 (Or.inr hc)
              have hc2 : (((cpl key nx : Nat) : Int) != (n : Int)) = true := by rw [bne_iff_ne]; omega
              have HC := Lib.hid hc
              clear hc
              generalize cpl key nx = c at *
              go_wp2_with (fail)
              go_meet
              exact ⟨by rw [hb0], hbe3.trans (hb4.mono hbsz)⟩
          | false =>
            cases hq : kle nx key with
            | true =>
              have hkl2 := kle_walk hq
              have hb0 : bad = true := hbad.out.2 (Or.inl ⟨rfl, hq⟩)
              have HQ := Lib.hid hq
              have HB0 := Lib.hid hb0
              clear hq hb0
              go_wp2_with (fail)
              go_meet
              exact ⟨by rw [HB0.out], hbe3⟩
            | false =>
              obtain ⟨q5, q6⟩ := nkle_walk hq
              have HQ := Lib.hid hq
              clear hq
              go_wp2_with (fail)
              refine (shared_any (str key) (str nx) _ (by rw [e2]; omega) (by rw [e5]; omega)).mono ?_
              rintro e w4 ⟨rfl, hb4⟩
              rw [str_data, str_data]
              have hcl := (cpl_le key nx).1
              by_cases hc : cpl key nx = n
              · have hb0 : bad = false := by
                  cases hq : bad with
                  | false => rfl
                  | true => rcases hbad.out.1 hq with ⟨_, h⟩ | h
                            · rw [HQ.out] at h; cases h
                            · exact absurd hc h
                rw [hc]
                go_wp2_with (fail)
                go_meet
                exact ⟨by rw [hb0], hbe3.trans (hb4.mono hbsz)⟩
              · have hb0 : bad = true := hbad.out.2 (Or.inr hc)
                have hc2 : (((cpl key nx : Nat) : Int) != (n : Int)) = true := by rw [bne_iff_ne]; omega
                have HC := Lib.hid hc
                clear hc
                generalize cpl key nx = c at *
                go_wp2_with (fail)
                go_meet
                exact ⟨by rw [hb0], hbe3.trans (hb4.mono hbsz)⟩
        case rest =>
          obtain ⟨rfl, hb4⟩ := hcut
          clear hbe3 hcp1 hcp2 hcv hmk hsl
          have hbr4 := hbr2.below hb4 hbr2.lt
          have hbe4 : Below w.heap.size w wc := hbe.trans (hb4.mono hbe.size)
          have hl4 := hbr4.lt
          clear hbr hbr2 hbe hb2 hb4
          cases bad with
          | true =>
            have HA := Lib.hid (HE4.out (hbad.out.1 rfl))
            have c0 := hbr4.cell 0
            have c1 := hbr4.cell 1
            have f0 := hbr4.free 0
            have f1 := hbr4.free 1
            simp only [List.getElem?_cons_zero, List.getElem?_cons_succ] at c0 c1
            go_wp2
            refine bodyPost_ret (v := .tuple #[.agg #[strV [], strV []], strV [], .iface 90 (.int .i64 4)]) (pair_results _ _ w.heap.size _ _ 33 rfl ((hbr4.set 0 _).set 1 _)) rfl ⟨by rw [HA.out]; rfl, (hbe4.setCell (Nat.le_refl _) _).setCell (Nat.le_refl _) _⟩
          | false =>
            have hnb : ¬ ((first = false ∧ kle nx key = true) ∨ cpl key nx ≠ n) := fun h => by
              have := hbad.out.2 h
              cases this
            by_cases h5 : (textsL t2).2.2 = 0
            · have hU := HU.out
              simp only [h5, errV_none] at hU
              have HA := Lib.hid (HF.out hnb h5)
              have hl5 := (textsL_len t2).1
              have HU2 := Lib.hid hU
              have HNB := Lib.hid hnb
              clear hU hnb h5 HU
              generalize (textsL t2).1 = v1 at *
              generalize (textsL t2).2.1 = v2 at *
              go_wp2_with (fail)
              refine (HU2.out _).mono ?_
              rintro e w5 ⟨rfl, hb5⟩
              have hbr5 := hbr4.below hb5 hl4
              have hz5 := hb5.size
              go_wp2_with (fail)
              refine (Clone_any v1 _ (by omega)).mono ?_
              rintro e w6 ⟨rfl, hb6⟩
              have hbr6 := hbr5.below hb6 hbr5.lt
              have hz6 := hb6.size
              have c0 := hbr6.cell 0
              have c1 := hbr6.cell 1
              have f0 := hbr6.free 0
              have f1 := hbr6.free 1
              simp only [List.getElem?_cons_zero, List.getElem?_cons_succ] at c0 c1
              go_wp2
              refine bodyPost_ret (v := .tuple #[.agg #[strV nx, strV v1], strV v2, .nilIface]) (pair_results _ _ w.heap.size _ _ 33 rfl ((hbr6.set 0 _).set 1 _)) rfl ⟨by rw [HA.out]; rfl, ((hbe4.trans ((hb5.trans (hb6.mono hz5)).mono hbe4.size)).setCell (Nat.le_refl _) _).setCell (Nat.le_refl _) _⟩
            · have hU := HU.out
              simp only [errV_some h5] at hU
              have HA := Lib.hid (HE5.out hnb h5)
              have HA2 := Lib.hid (errV_some h5)
              have HU2 := Lib.hid hU
              have HNB := Lib.hid hnb
              have H5 := Lib.hid h5
              clear hU hnb h5 HU
              generalize (textsL t2).2.2 = no at *
              generalize (textsL t2).1 = v1 at *
              generalize (textsL t2).2.1 = v2 at *
              go_wp2_with (fail)
              refine (HU2.out _).mono ?_
              rintro e w5 ⟨rfl, hb5⟩
              have hbr5 := hbr4.below hb5 hl4
              have c0 := hbr5.cell 0
              have c1 := hbr5.cell 1
              have f0 := hbr5.free 0
              have f1 := hbr5.free 1
              simp only [List.getElem?_cons_zero, List.getElem?_cons_succ] at c0 c1
              go_wp2
              refine bodyPost_ret (v := .tuple #[.agg #[strV [], strV []], strV [], .iface 90 (.int .i64 no)]) (pair_results _ _ w.heap.size _ _ 33 rfl ((hbr5.set 0 _).set 1 _)) rfl ⟨by rw [HA.out]; show _ = Ending.returned (.tuple #[_, _, errV no]); rw [HA2.out]; rfl, ((hbe4.trans (hb5.mono hbe4.size)).setCell (Nat.le_refl _) _).setCell (Nat.le_refl _) _⟩
      · rw [pairL_err3 h0 h2 h3]
        have hbr := Blk.new w [strV [], strV []] 33
        rw [errV_some h3]
        simp only [errV_some h3] at hT
        have HT := Lib.hid hT
        have HR := Lib.hid hR
        have H3 := Lib.hid h3
        clear hR h0 hT h3
        generalize (textsL (l.drop (readU 0 0 l).2.1)).2.2 = no at *
        generalize (textsL (l.drop (readU 0 0 l).2.1)).1 = t1 at *
        generalize (textsL (l.drop (readU 0 0 l).2.1)).2.1 = t2 at *
        generalize (readU 0 0 l).2.1 = x at *
        generalize (readU 0 0 l).1 = n at *
        go_enter Tryz.func39, Tryz.ntmps39
        go_wp2_with (fail)
        refine (HR.out _).mono ?_
        rintro e w1 ⟨rfl, rfl⟩
        go_wp2_with (fail)
        refine (HT.out _).mono ?_
        rintro e w2 ⟨rfl, hb2⟩
        have hbr2 := hbr.below hb2 (by simp)
        have hbe : Below w.heap.size w w2 := ((Below.refl w.heap.size w).alloc (Nat.le_refl _) _).trans (hb2.mono (by simp))
        have c0 := hbr2.cell 0
        have c1 := hbr2.cell 1
        have f0 := hbr2.free 0
        have f1 := hbr2.free 1
        simp only [List.getElem?_cons_zero, List.getElem?_cons_succ] at c0 c1
        go_wp2
        refine bodyPost_ret (v := .tuple #[.agg #[strV [], strV []], strV [], .iface 90 (.int .i64 no)]) (pair_results _ _ w.heap.size _ _ 33 rfl ((hbr2.set 0 _).set 1 _)) rfl ⟨rfl, (hbe.setCell (Nat.le_refl _) _).setCell (Nat.le_refl _) _⟩
  · obtain ⟨q1, q2, q3⟩ := readU_bad0 l 0 0 h0
    rw [pairL_err1 h0]
    rw [errV_some h0, q1, q2] at hR
    rw [errV_some h0]
    have HR := Lib.hid hR
    have H0 := Lib.hid h0
    clear hR q1 q2 h0 q3
    go_enter Tryz.func39, Tryz.ntmps39
    go_wp2_with (fail)
    refine (HR.out _).mono ?_
    rintro e w1 ⟨rfl, rfl⟩
    go_wp2
    refine bodyPost_ret (v := .tuple #[.agg #[strV [], strV []], strV [], .iface 90 (.int .i64 (readU 0 0 l).2.2)]) (by simp [results, Tryz.results39, go_sem]; rfl) rfl ⟨rfl, (Below.refl _ _).alloc (Nat.le_refl _) _⟩
end Go.Proofs.YtifdibkpaeocfaaGreatDoor
