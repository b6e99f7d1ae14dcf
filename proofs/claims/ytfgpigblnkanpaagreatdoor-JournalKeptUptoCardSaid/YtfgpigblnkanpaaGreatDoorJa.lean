/- The walks of the journal's frame, next and beginning. -/
import Derived.Test.YtfgpigblnkanpaaGreatDoorGR
import Derived.Test.YtfgpigblnkanpaaGreatDoorJn
import Derived.Test.YtfgpigblnkanpaaGreatDoorGC
import Derived.BigQuiet
import Derived.Deep.QuietTactic
import Derived.BigRegion
import Derived.Deep.RegionWith
import Derived.Deep.RegionHeld3
namespace Go.Proofs.YtfgpigblnkanpaaGreatDoor
open Go.RowKit
set_option linter.unusedVariables false

set_option maxHeartbeats 1000000 in
set_option maxRecDepth 100000 in
theorem jframe_any (r : List UInt8) (w : World) (hr : r.length ≤ 140737488351232) : Calls Tryz.prog 105 #[strV r] w fun e w' => e = .returned (strV (jframe r)) ∧ Below w.heap.size w w' := by
  have hU := Uint_any (r.length + 1) w (by show _ < _; omega)
  rw [show ((r.length + 1 : Nat) : Int) = (r.length : Int) + 1 from by omega] at hU
  have hsz := str_size r
  have hul := uintL_len (n := r.length + 1) (by omega)
  have hS := fun W => Sum_any (str (uintL (r.length + 1)) ++ str r) W (by rw [str_append, str_size, List.length_append]; omega)
  rw [str_append] at hS
  have hS2 : ∀ W, Calls Tryz.prog 133 #[.string (str (uintL (r.length + 1) ++ r))] W fun e w' => e = .returned (.int .u32 (crc (uintL (r.length + 1) ++ r) : Nat)) ∧ Below W.heap.size W w' := fun W => by
    have := hS W
    rw [show (str (uintL (r.length + 1) ++ r)).data.toList = uintL (r.length + 1) ++ r from rfl] at this
    exact this
  have HU := Lib.hid hU
  have HS := Lib.hid hS2
  have hsz1 := str_size (uintL (r.length + 1))
  have happ := str_append (uintL (r.length + 1)) r
  clear hU hS hS2
  generalize hu : uintL (r.length + 1) = u at *
  have HUE := Lib.hid hu
  clear hu
  go_enter Tryz.func105, Tryz.ntmps105
  go_wp2_with (fail)
  refine HU.out.mono ?_
  rintro e w1 ⟨rfl, hb1⟩
  have HB1 := Lib.hid hb1
  clear hb1
  go_wp2_with (fail)
  refine (HS.out w1).mono ?_
  rintro e w2 ⟨rfl, hb2⟩
  have HB2 := Lib.hid (HB1.out.trans (hb2.mono HB1.out.size))
  clear hb2
  have hcv : ∀ c, c = crc (u ++ r) → (convert 140 9 (.slice (some ⟨w2.heap.size, 0, none⟩) 4 4)).run Tryz.prog (w2.alloc (.cells #[Value.int .u8 ((c : Int) % 256), Value.int .u8 ((c : Int) / 256 % 256), Value.int .u8 ((c : Int) / 65536 % 256), Value.int .u8 ((c : Int) / 16777216 % 256)] 5)) = .ok (strV (crcTail (u ++ r))) (w2.alloc (.cells #[Value.int .u8 ((c : Int) % 256), Value.int .u8 ((c : Int) / 256 % 256), Value.int .u8 ((c : Int) / 65536 % 256), Value.int .u8 ((c : Int) / 16777216 % 256)] 5)) := by
    intro c hc
    refine conv_bytes (Blk.new w2 [_, _, _, _] 5) Tryz.underlying140 Tryz.underlying5 Tryz.underlying9 (crcTail (u ++ r)) [] 4 4 rfl ?_
    rw [four_cells, crcTail, hc, List.append_nil]
  generalize hcc : crc (u ++ r) = c at ⊢
  have hcv := hcv c hcc.symm
  have HCC := Lib.hid hcc
  clear hcc
  generalize htl : crcTail (u ++ r) = tl at *
  have happ2 := str_append u tl
  have happ3 := str_append (u ++ tl) r
  have htlen : tl.length = 4 := by rw [← htl]; rfl
  have hsz2 := str_size tl
  have hsz3 := str_size (u ++ tl)
  have hlen3 : (u ++ tl).length = u.length + tl.length := List.length_append
  have HTL := Lib.hid htl
  clear htl happ
  go_wp2
  go_ret
  have hfr : Value.string (str (u ++ (tl ++ r))) = strV (jframe r) := by
    unfold jframe
    rw [HUE.out, HTL.out]
  exact ⟨congrArg Ending.returned hfr, HB2.out.alloc HB2.out.size _⟩
/-- What next answers. -/
def nextV (p : Nat) : Option (List UInt8 × Nat) → Value
  | none => .tuple #[strV [], .int .i64 p, .bool false]
  | some (r, m) => .tuple #[strV r, .int .i64 ((p : Int) + m), .bool true]
set_option maxHeartbeats 2000000 in
set_option maxRecDepth 100000 in
theorem jnext_any (l : List UInt8) (p : Nat) (w : World) (hp : p ≤ l.length) (hl : l.length ≤ 140737488351232) : Calls Tryz.prog 157 #[strV l, .int .i64 p] w fun e w' => e = .returned (nextV p (jnext (l.drop p))) ∧ Below w.heap.size w w' := by
  have hR := ReadUint_in (str l) p w (by rw [str_size]; exact hp) (by rw [str_size]; omega)
  rw [show (str l).data.toList = l from rfl] at hR
  by_cases h0 : (readU 0 0 (l.drop p)).2.2 = 0
  · obtain ⟨q1, q2, q3, q4⟩ := readU_ok h0
    rw [h0, errV_none] at hR
    by_cases hn0 : (readU 0 0 (l.drop p)).1 = 0
    · have hj : jnext (l.drop p) = none := by unfold jnext; rw [if_pos (Or.inr (Or.inl hn0))]
      rw [hj]
      rw [hn0] at hR
      have HR := Lib.hid hR
      clear hR h0 hn0 q1 q2 q3 q4
      go_enter Tryz.func157, Tryz.ntmps157
      go_wp2_with (fail)
      refine HR.out.mono ?_
      rintro e w1 ⟨rfl, rfl⟩
      go_wp2
      go_ret3
      exact ⟨rfl, Below.refl _ _⟩
    · by_cases hbig : 16777216 < (readU 0 0 (l.drop p)).1 - 1
      · have hj : jnext (l.drop p) = none := by unfold jnext; rw [if_pos (Or.inr (Or.inr hbig))]
        rw [hj]
        have HR := Lib.hid hR
        clear hR h0
        generalize (readU 0 0 (l.drop p)).2.1 = x at *
        generalize (readU 0 0 (l.drop p)).1 = n at *
        have hq : ((n : Int) == 0) = false := by simp; omega
        have hq2 : (16777216 : Int) < (n : Int) - 1 := by omega
        have hq3 : (1 : Int) ≤ (n : Int) := by omega
        clear hn0 hbig
        go_enter Tryz.func157, Tryz.ntmps157
        go_wp2_with (fail)
        refine HR.out.mono ?_
        rintro e w1 ⟨rfl, rfl⟩
        go_wp2
        go_ret3
        exact ⟨rfl, Below.refl _ _⟩
      · have hdl : (l.drop p).length = l.length - p := List.length_drop
        by_cases hsh : (l.drop p).length < (readU 0 0 (l.drop p)).2.1 + 4 + ((readU 0 0 (l.drop p)).1 - 1)
        · have hj : jnext (l.drop p) = none := by unfold jnext; rw [if_neg (by omega), if_pos (Or.inl hsh)]
          rw [hj]
          have HR := Lib.hid hR
          clear hR h0 hj
          generalize (readU 0 0 (l.drop p)).2.1 = x at *
          generalize (readU 0 0 (l.drop p)).1 = n at *
          have hq : ((n : Int) == 0) = false := by simp; omega
          have hq2 : ¬ (16777216 : Int) < (n : Int) - 1 := by omega
          have hq3 : (1 : Int) ≤ (n : Int) := by omega
          have hw1 : IntKind.i64.wrap ((n : Int) - 1) = (n : Int) - 1 := IntWalk.i64_in _ (by omega)
          have hsz := str_size l
          have hge : (l.length : Int) < (p : Int) + x + 4 + ((n : Int) - 1) := by omega
          clear hn0 hbig hsh hdl
          go_enter Tryz.func157, Tryz.ntmps157
          go_wp2_with (fail)
          refine HR.out.mono ?_
          rintro e w1 ⟨rfl, rfl⟩
          go_wp2_with (fail)
          go_quiet (fail)
          go_wp2
          go_ret3
          exact ⟨rfl, below_drewN (Below.refl _ _) _⟩
        · obtain ⟨m, hm⟩ : ∃ m, m = (readU 0 0 (l.drop p)).2.1 + 4 + ((readU 0 0 (l.drop p)).1 - 1) := ⟨_, rfl⟩
          obtain ⟨f, hf⟩ : ∃ f, f = (readU 0 0 (l.drop p)).2.1 + 4 := ⟨_, rfl⟩
          have hx1 : (str l).extract (p + f) (p + m) = str (((l.drop p).take m).drop f) := by
            rw [str_extract, List.take_drop, List.drop_drop]
          have hx2 : (str l).extract p (p + m) = str ((l.drop p).take m) := by
            rw [str_extract, List.take_drop]
          have hrl : (((l.drop p).take m).drop f).length ≤ 140737488351232 := by rw [List.length_drop, List.length_take]; omega
          have HF := Lib.hid fun W => jframe_any (((l.drop p).take m).drop f) W hrl
          have hj : jnext (l.drop p) = if jframe (((l.drop p).take m).drop f) ≠ (l.drop p).take m then none else some (((l.drop p).take m).drop f, m) := by
            unfold jnext
            rw [if_neg (by omega), ← hm, ← hf]
            by_cases e : jframe (((l.drop p).take m).drop f) ≠ (l.drop p).take m
            · rw [if_pos (Or.inr e), if_pos e]
            · rw [if_neg e, if_neg (fun h => h.elim (fun h => by omega) e)]
          have HR := Lib.hid hR
          clear hR h0
          generalize (readU 0 0 (l.drop p)).2.1 = x at *
          generalize (readU 0 0 (l.drop p)).1 = n at *
          have hq : ((n : Int) == 0) = false := by simp; omega
          have hq2 : ¬ (16777216 : Int) < (n : Int) - 1 := by omega
          have hq3 : (1 : Int) ≤ (n : Int) := by omega
          have hw1 : IntKind.i64.wrap ((n : Int) - 1) = (n : Int) - 1 := IntWalk.i64_in _ (by omega)
          have hsz := str_size l
          have hle : (p : Int) + x + 4 + ((n : Int) - 1) ≤ (l.length : Int) := by omega
          have hdec : decide ((l.length : Int) < (p : Int) + x + 4 + ((n : Int) - 1)) = false := decide_eq_false (by omega)
          have hp0 : (0 : Int) ≤ (p : Int) + x + 4 := by omega
          have hp1 : (p : Int) + x + 4 ≤ (p : Int) + x + 4 + ((n : Int) - 1) := by omega
          have hp2 : ((p : Int) + x + 4).toNat = p + f := by omega
          have hp3 : ((p : Int) + x + 4 + ((n : Int) - 1)).toNat = p + m := by omega
          have hp4 : (0 : Int) ≤ (p : Int) + x + 4 + ((n : Int) - 1) := by omega
          have hp5 : (p : Int) ≤ (p : Int) + x + 4 + ((n : Int) - 1) := by omega
          have hval : (p : Int) + x + 4 + ((n : Int) - 1) = (p : Int) + m := by omega
          rw [hj]
          generalize ((l.drop p).take m).drop f = r at *
          generalize (l.drop p).take m = t at *
          have HVAL := Lib.hid hval
          clear hn0 hbig hsh hdl hj hm hf hval
          by_cases hfr : jframe r = t
          · have heq : ((str (jframe r)).toList == (str t).toList) = true := by rw [hfr]; simp
            rw [if_neg (by simpa using hfr)]
            clear hfr
            go_enter Tryz.func157, Tryz.ntmps157
            go_wp2_with (fail)
            refine HR.out.mono ?_
            rintro e w1 ⟨rfl, rfl⟩
            go_wp2_with (fail)
            go_region_held3 (fun _ => True) (trivial) (first
              | (go_at_call 105; refine (HF.out _).mono ?_; rintro e w2 ⟨rfl, hb2⟩))
            have hb3 := below_undrew hb2
            clear hb2
            go_wp2
            go_ret3
            have hv : Value.tuple #[.string (str r), .int .i64 ((p : Int) + x + 4 + ((n : Int) - 1)), .bool true] = nextV p (some (r, m)) := by unfold nextV; rw [HVAL.out]
            exact ⟨congrArg Ending.returned hv, hb3⟩
          · have heq : ((str (jframe r)).toList == (str t).toList) = false := by rw [toList_str, toList_str]; simpa using hfr
            rw [if_pos (by simpa using hfr)]
            clear hfr
            go_enter Tryz.func157, Tryz.ntmps157
            go_wp2_with (fail)
            refine HR.out.mono ?_
            rintro e w1 ⟨rfl, rfl⟩
            go_wp2_with (fail)
            go_region_held3 (fun _ => True) (trivial) (first
              | (go_at_call 105; refine (HF.out _).mono ?_; rintro e w2 ⟨rfl, hb2⟩))
            have hb3 := below_undrew hb2
            clear hb2
            go_wp2
            go_ret3
            exact ⟨rfl, hb3⟩
  · obtain ⟨q1, q2, q3⟩ := readU_bad0 (l.drop p) 0 0 h0
    have hj : jnext (l.drop p) = none := by unfold jnext; rw [if_pos (Or.inl h0)]
    rw [hj]
    rw [errV_some h0, q1, q2] at hR
    have HR := Lib.hid hR
    clear hR h0 q1 q2 q3 hj
    go_enter Tryz.func157, Tryz.ntmps157
    go_wp2_with (fail)
    refine HR.out.mono ?_
    rintro e w1 ⟨rfl, rfl⟩
    go_wp2
    go_ret3
    exact ⟨rfl, Below.refl _ _⟩
end Go.Proofs.YtfgpigblnkanpaaGreatDoor
