/- The walks of the journal's frame, next and beginning. The walk of the journal's beginning. A disk that has one file, or a file and another that is laid in its place. Plain data. -/
import Derived.Test.YtfgpigblnkanpaaGreatDoorGR
import Derived.Test.YtfgpigblnkanpaaGreatDoorHA
import Derived.Test.YtfgpigblnkanpaaGreatDoorGC
import Derived.BigQuiet
import Derived.Deep.QuietTactic
import Derived.BigRegion
import Derived.Deep.RegionWith
import Derived.Deep.RegionHeld3
import Derived.Test.YtfgpigblnkanpaaGreatDoorGP
import Derived.Test.YtfgpigblnkanpaaGreatDoorGA
namespace Go.Proofs.YtfgpigblnkanpaaGreatDoor
open Go.RowKit
set_option linter.unusedVariables false

set_option maxHeartbeats 1000000 in
set_option maxRecDepth 100000 in
theorem jframe_any (r : List UInt8) (w : World) (hr : r.length ≤ 140737488351232) : Calls Tryz.prog 105 #[strV r] w fun e w' => e = .returned (strV (jframe r)) ∧ Below w.heap.size w w' := by
  have hU := Uint_any (r.length + 1) w (by show _ < _; omega)
  rw [show ((r.length + 1 : Nat) : Int) = (r.length : Int) + 1 from by omega] at hU
  have hsz := str_size r
  have hul := uintL_len (n := r.length + 1) (by omega)
  have hS := fun W => Sum_any (str (uintL (r.length + 1)) ++ str r) W (by rw [str_append, str_size, List.length_append]; omega)
  rw [str_append] at hS
  have hS2 : ∀ W, Calls Tryz.prog 133 #[.string (str (uintL (r.length + 1) ++ r))] W fun e w' => e = .returned (.int .u32 (crc (uintL (r.length + 1) ++ r) : Nat)) ∧ Below W.heap.size W w' := fun W => by
    have := hS W
    rw [show (str (uintL (r.length + 1) ++ r)).data.toList = uintL (r.length + 1) ++ r from rfl] at this
    exact this
  have HU := Lib.hid hU
  have HS := Lib.hid hS2
  have hsz1 := str_size (uintL (r.length + 1))
  have happ := str_append (uintL (r.length + 1)) r
  clear hU hS hS2
  generalize hu : uintL (r.length + 1) = u at *
  have HUE := Lib.hid hu
  clear hu
  go_enter Tryz.func105, Tryz.ntmps105
  go_wp2_with (fail)
  refine HU.out.mono ?_
  rintro e w1 ⟨rfl, hb1⟩
  have HB1 := Lib.hid hb1
  clear hb1
  go_wp2_with (fail)
  refine (HS.out w1).mono ?_
  rintro e w2 ⟨rfl, hb2⟩
  have HB2 := Lib.hid (HB1.out.trans (hb2.mono HB1.out.size))
  clear hb2
  have hcv : ∀ c, c = crc (u ++ r) → (convert 140 9 (.slice (some ⟨w2.heap.size, 0, none⟩) 4 4)).run Tryz.prog (w2.alloc (.cells #[Value.int .u8 ((c : Int) % 256), Value.int .u8 ((c : Int) / 256 % 256), Value.int .u8 ((c : Int) / 65536 % 256), Value.int .u8 ((c : Int) / 16777216 % 256)] 5)) = .ok (strV (crcTail (u ++ r))) (w2.alloc (.cells #[Value.int .u8 ((c : Int) % 256), Value.int .u8 ((c : Int) / 256 % 256), Value.int .u8 ((c : Int) / 65536 % 256), Value.int .u8 ((c : Int) / 16777216 % 256)] 5)) := by
    intro c hc
    refine conv_bytes (Blk.new w2 [_, _, _, _] 5) Tryz.underlying140 Tryz.underlying5 Tryz.underlying9 (crcTail (u ++ r)) [] 4 4 rfl ?_
    rw [four_cells, crcTail, hc, List.append_nil]
  generalize hcc : crc (u ++ r) = c at ⊢
  have hcv := hcv c hcc.symm
  have HCC := Lib.hid hcc
  clear hcc
  generalize htl : crcTail (u ++ r) = tl at *
  have happ2 := str_append u tl
  have happ3 := str_append (u ++ tl) r
  have htlen : tl.length = 4 := by rw [← htl]; rfl
  have hsz2 := str_size tl
  have hsz3 := str_size (u ++ tl)
  have hlen3 : (u ++ tl).length = u.length + tl.length := List.length_append
  have HTL := Lib.hid htl
  clear htl happ
  go_wp2
  go_ret
  have hfr : Value.string (str (u ++ (tl ++ r))) = strV (jframe r) := by
    unfold jframe
    rw [HUE.out, HTL.out]
  exact ⟨congrArg Ending.returned hfr, HB2.out.alloc HB2.out.size _⟩
/-- What next answers. -/
def nextV (p : Nat) : Option (List UInt8 × Nat) → Value
  | none => .tuple #[strV [], .int .i64 p, .bool false]
  | some (r, m) => .tuple #[strV r, .int .i64 ((p : Int) + m), .bool true]
set_option maxHeartbeats 2000000 in
set_option maxRecDepth 100000 in
theorem jnext_any (l : List UInt8) (p : Nat) (w : World) (hp : p ≤ l.length) (hl : l.length ≤ 140737488351232) : Calls Tryz.prog 157 #[strV l, .int .i64 p] w fun e w' => e = .returned (nextV p (jnext (l.drop p))) ∧ Below w.heap.size w w' := by
  have hR := ReadUint_in (str l) p w (by rw [str_size]; exact hp) (by rw [str_size]; omega)
  rw [show (str l).data.toList = l from rfl] at hR
  by_cases h0 : (readU 0 0 (l.drop p)).2.2 = 0
  · obtain ⟨q1, q2, q3, q4⟩ := readU_ok h0
    rw [h0, errV_none] at hR
    by_cases hn0 : (readU 0 0 (l.drop p)).1 = 0
    · have hj : jnext (l.drop p) = none := by unfold jnext; rw [if_pos (Or.inr (Or.inl hn0))]
      rw [hj]
      rw [hn0] at hR
      have HR := Lib.hid hR
      clear hR h0 hn0 q1 q2 q3 q4
      go_enter Tryz.func157, Tryz.ntmps157
      go_wp2_with (fail)
      refine HR.out.mono ?_
      rintro e w1 ⟨rfl, rfl⟩
      go_wp2
      go_ret3
      exact ⟨rfl, Below.refl _ _⟩
    · by_cases hbig : 16777216 < (readU 0 0 (l.drop p)).1 - 1
      · have hj : jnext (l.drop p) = none := by unfold jnext; rw [if_pos (Or.inr (Or.inr hbig))]
        rw [hj]
        have HR := Lib.hid hR
        clear hR h0
        generalize (readU 0 0 (l.drop p)).2.1 = x at *
        generalize (readU 0 0 (l.drop p)).1 = n at *
        have hq : ((n : Int) == 0) = false := by simp; omega
        have hq2 : (16777216 : Int) < (n : Int) - 1 := by omega
        have hq3 : (1 : Int) ≤ (n : Int) := by omega
        clear hn0 hbig
        go_enter Tryz.func157, Tryz.ntmps157
        go_wp2_with (fail)
        refine HR.out.mono ?_
        rintro e w1 ⟨rfl, rfl⟩
        go_wp2
        go_ret3
        exact ⟨rfl, Below.refl _ _⟩
      · have hdl : (l.drop p).length = l.length - p := List.length_drop
        by_cases hsh : (l.drop p).length < (readU 0 0 (l.drop p)).2.1 + 4 + ((readU 0 0 (l.drop p)).1 - 1)
        · have hj : jnext (l.drop p) = none := by unfold jnext; rw [if_neg (by omega), if_pos (Or.inl hsh)]
          rw [hj]
          have HR := Lib.hid hR
          clear hR h0 hj
          generalize (readU 0 0 (l.drop p)).2.1 = x at *
          generalize (readU 0 0 (l.drop p)).1 = n at *
          have hq : ((n : Int) == 0) = false := by simp; omega
          have hq2 : ¬ (16777216 : Int) < (n : Int) - 1 := by omega
          have hq3 : (1 : Int) ≤ (n : Int) := by omega
          have hw1 : IntKind.i64.wrap ((n : Int) - 1) = (n : Int) - 1 := IntWalk.i64_in _ (by omega)
          have hsz := str_size l
          have hge : (l.length : Int) < (p : Int) + x + 4 + ((n : Int) - 1) := by omega
          clear hn0 hbig hsh hdl
          go_enter Tryz.func157, Tryz.ntmps157
          go_wp2_with (fail)
          refine HR.out.mono ?_
          rintro e w1 ⟨rfl, rfl⟩
          go_wp2_with (fail)
          go_quiet (fail)
          go_wp2
          go_ret3
          exact ⟨rfl, below_drewN (Below.refl _ _) _⟩
        · obtain ⟨m, hm⟩ : ∃ m, m = (readU 0 0 (l.drop p)).2.1 + 4 + ((readU 0 0 (l.drop p)).1 - 1) := ⟨_, rfl⟩
          obtain ⟨f, hf⟩ : ∃ f, f = (readU 0 0 (l.drop p)).2.1 + 4 := ⟨_, rfl⟩
          have hx1 : (str l).extract (p + f) (p + m) = str (((l.drop p).take m).drop f) := by
            rw [str_extract, List.take_drop, List.drop_drop]
          have hx2 : (str l).extract p (p + m) = str ((l.drop p).take m) := by
            rw [str_extract, List.take_drop]
          have hrl : (((l.drop p).take m).drop f).length ≤ 140737488351232 := by rw [List.length_drop, List.length_take]; omega
          have HF := Lib.hid fun W => jframe_any (((l.drop p).take m).drop f) W hrl
          have hj : jnext (l.drop p) = if jframe (((l.drop p).take m).drop f) ≠ (l.drop p).take m then none else some (((l.drop p).take m).drop f, m) := by
            unfold jnext
            rw [if_neg (by omega), ← hm, ← hf]
            by_cases e : jframe (((l.drop p).take m).drop f) ≠ (l.drop p).take m
            · rw [if_pos (Or.inr e), if_pos e]
            · rw [if_neg e, if_neg (fun h => h.elim (fun h => by omega) e)]
          have HR := Lib.hid hR
          clear hR h0
          generalize (readU 0 0 (l.drop p)).2.1 = x at *
          generalize (readU 0 0 (l.drop p)).1 = n at *
          have hq : ((n : Int) == 0) = false := by simp; omega
          have hq2 : ¬ (16777216 : Int) < (n : Int) - 1 := by omega
          have hq3 : (1 : Int) ≤ (n : Int) := by omega
          have hw1 : IntKind.i64.wrap ((n : Int) - 1) = (n : Int) - 1 := IntWalk.i64_in _ (by omega)
          have hsz := str_size l
          have hle : (p : Int) + x + 4 + ((n : Int) - 1) ≤ (l.length : Int) := by omega
          have hdec : decide ((l.length : Int) < (p : Int) + x + 4 + ((n : Int) - 1)) = false := decide_eq_false (by omega)
          have hp0 : (0 : Int) ≤ (p : Int) + x + 4 := by omega
          have hp1 : (p : Int) + x + 4 ≤ (p : Int) + x + 4 + ((n : Int) - 1) := by omega
          have hp2 : ((p : Int) + x + 4).toNat = p + f := by omega
          have hp3 : ((p : Int) + x + 4 + ((n : Int) - 1)).toNat = p + m := by omega
          have hp4 : (0 : Int) ≤ (p : Int) + x + 4 + ((n : Int) - 1) := by omega
          have hp5 : (p : Int) ≤ (p : Int) + x + 4 + ((n : Int) - 1) := by omega
          have hval : (p : Int) + x + 4 + ((n : Int) - 1) = (p : Int) + m := by omega
          rw [hj]
          generalize ((l.drop p).take m).drop f = r at *
          generalize (l.drop p).take m = t at *
          have HVAL := Lib.hid hval
          clear hn0 hbig hsh hdl hj hm hf hval
          by_cases hfr : jframe r = t
          · have heq : ((str (jframe r)).toList == (str t).toList) = true := by rw [hfr]; simp
            rw [if_neg (by simpa using hfr)]
            clear hfr
            go_enter Tryz.func157, Tryz.ntmps157
            go_wp2_with (fail)
            refine HR.out.mono ?_
            rintro e w1 ⟨rfl, rfl⟩
            go_wp2_with (fail)
            go_region_held3 (fun _ => True) (trivial) (first
              | (go_at_call 105; refine (HF.out _).mono ?_; rintro e w2 ⟨rfl, hb2⟩))
            have hb3 := below_undrew hb2
            clear hb2
            go_wp2
            go_ret3
            have hv : Value.tuple #[.string (str r), .int .i64 ((p : Int) + x + 4 + ((n : Int) - 1)), .bool true] = nextV p (some (r, m)) := by unfold nextV; rw [HVAL.out]
            exact ⟨congrArg Ending.returned hv, hb3⟩
          · have heq : ((str (jframe r)).toList == (str t).toList) = false := by rw [toList_str, toList_str]; simpa using hfr
            rw [if_pos (by simpa using hfr)]
            clear hfr
            go_enter Tryz.func157, Tryz.ntmps157
            go_wp2_with (fail)
            refine HR.out.mono ?_
            rintro e w1 ⟨rfl, rfl⟩
            go_wp2_with (fail)
            go_region_held3 (fun _ => True) (trivial) (first
              | (go_at_call 105; refine (HF.out _).mono ?_; rintro e w2 ⟨rfl, hb2⟩))
            have hb3 := below_undrew hb2
            clear hb2
            go_wp2
            go_ret3
            exact ⟨rfl, hb3⟩
  · obtain ⟨q1, q2, q3⟩ := readU_bad0 (l.drop p) 0 0 h0
    have hj : jnext (l.drop p) = none := by unfold jnext; rw [if_pos (Or.inl h0)]
    rw [hj]
    rw [errV_some h0, q1, q2] at hR
    have HR := Lib.hid hR
    clear hR h0 q1 q2 q3 hj
    go_enter Tryz.func157, Tryz.ntmps157
    go_wp2_with (fail)
    refine HR.out.mono ?_
    rintro e w1 ⟨rfl, rfl⟩
    go_wp2
    go_ret3
    exact ⟨rfl, Below.refl _ _⟩
end Go.Proofs.YtfgpigblnkanpaaGreatDoor

namespace Go.Proofs.YtfgpigblnkanpaaGreatDoor
open Go.RowKit Go.Maps Go.Shelf
set_option linter.unusedVariables false

theorem infoStrJ : (Tryz.prog.info? 9).map (fun i => (i.zero, i.size, i.bytes)) = some (some (strV []), 1, 16) := by kernel_rfl
set_option maxHeartbeats 2000000 in
set_option maxRecDepth 100000 in
theorem jbeginning_any (l : List UInt8) (w : World) (hl : l.length ≤ 8796093022208) : Calls Tryz.prog 134 #[strV l] w fun e w' => ∃ v, e = .returned (.tuple #[v, .int .i64 (jbegin l).2]) ∧ w'.ownsRow w.heap.size 9 1 v (jbegin l).1.length ((jbegin l).1.map strV) ∧ Below w.heap.size w w' := by
  obtain ⟨i0, hi, hz0, hz1, hz2⟩ := info_parts infoStrJ
  go_enter Tryz.func134, Tryz.ntmps134
  go_wp2_with (fail)
  go_loopw [4, 5] (fun v iv wr => ∃ (p : Nat) (R : List (List UInt8)), iv = .int .i64 p ∧ p ≤ l.length ∧ R.length ≤ p ∧ wr.ownsRow w.heap.size 9 1 v R.length (R.map strV) ∧ Hid (jbegin l = (R ++ (jbegin (l.drop p)).1, p + (jbegin (l.drop p)).2)) ∧ Below w.heap.size w wr) (fun _ iv _ => l.length - (intOf iv).toNat)
  case atStart => exact ⟨0, [], rfl, Nat.zero_le _, Nat.zero_le _, World.ownsRow_nil _ _ _ _, by show _ = _; simp, Below.refl _ _⟩
  case round =>
    obtain ⟨p, R, rfl, hp, hRp, hown, hE, hbel⟩ := hrel
    have hsz := hbel.size
    have hN := jnext_any l p wr hp (by omega)
    cases hj : jnext (l.drop p) with
    | none =>
      rw [hj] at hN
      have hE2 : jbegin l = (R, p) := by have := hE.out; rw [jbegin_none hj] at this; simpa using this
      have HN := Lib.hid hN
      have HE := Lib.hid hE2
      have HO := Lib.hid hown
      have HB := Lib.hid hbel
      obtain ⟨va, vc, rfl, -⟩ := row_open hown
      clear hN hj hE2 hE hown hbel
      go_wp2_with (fail)
      refine HN.out.mono ?_
      rintro e w1 ⟨rfl, hb1⟩
      unfold nextV
      have HB1 := Lib.hid (HB.out.trans (hb1.mono hsz))
      have HO1 := Lib.hid (row_below HO.out hb1)
      clear hb1
      go_wp2
      go_ret2
      rw [HE.out]
      exact ⟨_, rfl, HO1.out, HB1.out⟩
    | some x =>
      obtain ⟨r, m⟩ := x
      rw [hj] at hN
      obtain ⟨hm1, hm2, hrl, -⟩ := jnext_le hj
      rw [List.length_drop] at hm2
      have hE2 : Hid (jbegin l = (R ++ [r] ++ (jbegin (l.drop (p + m))).1, p + m + (jbegin (l.drop (p + m))).2)) := by
        show _ = _
        have := hE.out
        rw [jbegin_some hj, List.drop_drop] at this
        rw [this]
        simp [Nat.add_assoc]
      have HN := Lib.hid hN
      have HO := Lib.hid hown
      have HB := Lib.hid hbel
      obtain ⟨va, vc, rfl, -⟩ := row_open hown
      clear hN hj hE hown hbel
      go_wp2_with (fail)
      refine HN.out.mono ?_
      rintro e w1 ⟨rfl, hb1⟩
      unfold nextV
      have HB1 := Lib.hid (HB.out.trans (hb1.mono hsz))
      have HO1 := Lib.hid (row_below HO.out hb1)
      have hsz1 := hb1.size
      clear hb1
      go_wp2_with (fail)
      refine (Clone_any r w1 (by omega)).mono ?_
      rintro e w2 ⟨rfl, hb2⟩
      have HB2 := Lib.hid (HB1.out.trans (hb2.mono HB1.out.size))
      have hown2 := row_below HO1.out hb2
      have hsz2 := hb2.size
      clear hb2
      go_wp2_with (at_builtin; refine wpList_append_own _ rfl _ _ 37 rfl w.heap.size 9 i0 (strV []) 1 16 Tryz.underlying37 hi hz0 hz1 hz2 rfl (by decide) (.slice va R.length vc) R.length (R.map strV) rfl (hown2.alloc _) ⟨w2.heap.size, 0, none⟩ 1 1 [strV r] rfl rfl ?c1 ?c2 ?c3 ?c4 ?c5 ?_)
      case c1 => exact World.news_of_block (cs := #[strV r]) (t := 9) (fr := (0, 0)) (heap_alloc_new w2 _)
      case c2 => intro u hu; simp at hu; subst hu; rfl
      case c3 => unfold maxLen; omega
      case c4 => omega
      case c5 => have := HB2.out.size; simp; omega
      intro v' w5 hown5 hgrow5 hv5
      have hbel5 : Below w.heap.size w w5 := (HB2.out.alloc HB2.out.size _).grown hgrow5 (by have := HB2.out.size; simp; omega) (fun j hj => (hown2.lt j hj).1)
      rw [show R.map strV ++ [strV r] = (R ++ [r]).map strV from by simp] at hown5
      obtain ⟨wa, wc, rfl, -⟩ := row_open hown5
      have HO5 := Lib.hid hown5
      have HB5 := Lib.hid hbel5
      clear hown5 hgrow5 hv5 hown2 hbel5
      go_wp2
      go_roundw
      case rel => exact ⟨p + m, R ++ [r], by go_num, by omega, by simp; omega, by simpa using HO5.out, hE2, HB5.out⟩
      case measure => simp [intOf]; omega
end Go.Proofs.YtfgpigblnkanpaaGreatDoor

namespace Go.Proofs.YtfgpigblnkanpaaGreatDoor

/-- One name alone, of these bytes. -/
structure Lone (d : Dk) (n : Nm) (x : List UInt8) (R : Nat) : Prop where
  calm : Calm d
  ok : DkOk d
  room : d.room = R
  one : ∃ f, d.now = [(n, f)] ∧ (fat d.files f).data = x
variable {d : Dk} {n : Nm} {x : List UInt8} {R : Nat}
theorem ddo_calm (hc : Calm d) {o : Od} (hr : drefused d o = 0) : ddo d o = (dact d false o, 0) := by
  rw [ddo_ok hc hr]
  have h0 : d.armed - 1 = d.armed := by rw [hc.2]
  rw [h0]
theorem dact_room (d : Dk) (b : Bool) (o : Od) : (dact d b o).room = d.room := by cases o <;> cases b <;> rfl
theorem Lone.read (h : Lone d n x R) : dread d n = (x, 0) := by
  obtain ⟨f, h1, h2⟩ := h.one
  unfold dread
  rw [if_neg (by rw [h.calm.1]; simp), h1, tget_cons, if_pos rfl]
  simp [h2]
theorem Lone.miss (h : Lone d n x R) {m : Nm} (hm : n ≠ m) : dread d m = ([], 18) := by
  obtain ⟨f, h1, h2⟩ := h.one
  unfold dread
  rw [if_neg (by rw [h.calm.1]; simp), h1, tget_cons, if_neg (by exact hm)]
  rfl
theorem Lone.used (h : Lone d n x R) : dused d = x.length := by
  obtain ⟨f, h1, h2⟩ := h.one
  unfold dused
  rw [if_neg (by rw [h.calm.1]; simp), h1]
  simp [dsum, h2]
theorem Lone.write (h : Lone d n x R) {s : List UInt8} (hs : x.length + s.length ≤ R) : (ddo d (.write n s)).2 = 0 ∧ Lone (ddo d (.write n s)).1 n (x ++ s) R := by
  obtain ⟨f, h1, h2⟩ := h.one
  have hg : tget d.now n = some f := by rw [h1, tget_cons, if_pos rfl]
  have hr : drefused d (.write n s) = 0 := by
    show (if (tget d.now n).isSome = false then 18 else if d.room < dused d + s.length then 19 else 0) = 0
    rw [hg, if_neg (by simp), h.used, h.room, if_neg (by omega)]
  have hf : f < d.files.length := h.ok.nowIn (n, f) (by rw [h1]; simp)
  have hc := h.calm.do (.write n s)
  have hk := h.ok.do (.write n s)
  rw [ddo_calm h.calm hr] at hc hk ⊢
  refine ⟨rfl, hc, hk, (dact_room _ _ _).trans h.room, f, h1, ?_⟩
  show (fat (fmod d.files ((tget d.now n).getD 0) fun f => ⟨f.data ++ s, f.safe⟩) f).data = _
  rw [hg]
  show (fat (fmod d.files f _) f).data = _
  rw [fat_fmod _ _ _ _ hf, if_pos rfl, h2]
theorem Lone.sync (h : Lone d n x R) : (ddo d (.sync n)).2 = 0 ∧ Lone (ddo d (.sync n)).1 n x R := by
  obtain ⟨f, h1, h2⟩ := h.one
  have hg : tget d.now n = some f := by rw [h1, tget_cons, if_pos rfl]
  obtain ⟨a, b, _, _, e, _⟩ := sync_one h.ok h.calm hg
  have hr : drefused d (.sync n) = 0 := by simp [drefused, hg]
  refine ⟨a, h.calm.do _, h.ok.do _, ?_, f, b.trans h1, (e f).trans h2⟩
  rw [ddo_calm h.calm hr]
  exact (dact_room _ _ _).trans h.room
theorem Lone.flush (h : Lone d n x R) : (ddo d .flush).2 = 0 ∧ Lone (ddo d .flush).1 n x R := by
  obtain ⟨f, h1, h2⟩ := h.one
  refine ⟨by rw [h.calm.flush], h.calm.do _, h.ok.do _, ?_, f, ?_, ?_⟩ <;> rw [h.calm.flush]
  · exact h.room
  · exact h1
  · exact h2
/-- A new disk: a name made there. -/
theorem lone_new (R : Nat) (hR : R ≤ 268435456) {n : Nm} (hn : badName n = false) : (ddo (dnew R) (.create n)).2 = 0 ∧ Lone (ddo (dnew R) (.create n)).1 n [] R := by
  have hr : drefused (dnew R) (.create n) = 0 := by
    show (if badName n = true then 21 else if (tget [] n).isSome = true then 13 else 0) = 0
    rw [hn]
    rfl
  have hc : Calm (dnew R) := ⟨rfl, rfl⟩
  refine ⟨by rw [ddo_calm hc hr], hc.do _, (DkOk.new _).do _, ?_, 0, ?_, ?_⟩ <;> rw [ddo_calm hc hr]
  · rw [dact_room]; show (min (max (R : Int) 0) 268435456).toNat = R; omega
  · rfl
  · rfl
/-! ### a hand laid beside it -/
/-- Another name behind it, of these bytes. -/
structure Handed (d : Dk) (n m : Nm) (x y : List UInt8) (R : Nat) : Prop where
  calm : Calm d
  ok : DkOk d
  room : d.room = R
  lt : nlt n m = true
  two : ∃ f g, d.now = [(n, f), (m, g)] ∧ f ≠ g ∧ (fat d.files f).data = x ∧ (fat d.files g).data = y
variable {m : Nm} {y : List UInt8}
theorem Lone.hand (h : Lone d n x R) (hm : nlt n m = true) (hb : badName m = false) : (ddo d (.create m)).2 = 0 ∧ Handed (ddo d (.create m)).1 n m x [] R := by
  obtain ⟨f, h1, h2⟩ := h.one
  have hne := nlt_ne hm
  have hg : tget d.now m = none := by rw [h1, tget_cons, if_neg (by exact hne)]; rfl
  have hr : drefused d (.create m) = 0 := by
    show (if badName m = true then 21 else if (tget d.now m).isSome = true then 13 else 0) = 0
    rw [hb, hg]
    rfl
  have hf : f < d.files.length := h.ok.nowIn (n, f) (by rw [h1]; simp)
  have hc := h.calm.do (.create m)
  have hk := h.ok.do (.create m)
  rw [ddo_calm h.calm hr] at hc hk ⊢
  refine ⟨rfl, hc, hk, (dact_room _ _ _).trans h.room, hm, f, d.files.length, ?_, by omega, ?_, ?_⟩
  · show tins d.now m d.files.length = _
    rw [h1]
    unfold tins
    simp [hm, nlt_asymm hm]
  · show (fat (d.files ++ [⟨[], 0⟩]) f).data = x
    rw [fat_append hf, h2]
  · show (fat (d.files ++ [⟨[], 0⟩]) d.files.length).data = []
    unfold fat
    rw [List.getD_eq_getElem?_getD, List.getElem?_append_right (Nat.le_refl _)]
    simp
theorem Handed.get (h : Handed d n m x y R) : ∃ f g, d.now = [(n, f), (m, g)] ∧ f ≠ g ∧ (fat d.files f).data = x ∧ (fat d.files g).data = y ∧ tget d.now m = some g ∧ tget d.now n = some f ∧ f < d.files.length ∧ g < d.files.length := by
  obtain ⟨f, g, h1, h2, h3, h4⟩ := h.two
  have hne := nlt_ne h.lt
  refine ⟨f, g, h1, h2, h3, h4, ?_, ?_, h.ok.nowIn (n, f) (by rw [h1]; simp), h.ok.nowIn (m, g) (by rw [h1]; simp)⟩
  · rw [h1, tget_cons, if_neg (by exact hne), tget_cons, if_pos rfl]
  · rw [h1, tget_cons, if_pos rfl]
theorem Handed.write (h : Handed d n m x y R) {s : List UInt8} (hs : x.length + y.length + s.length ≤ R) : (ddo d (.write m s)).2 = 0 ∧ Handed (ddo d (.write m s)).1 n m x (y ++ s) R := by
  obtain ⟨f, g, h1, h2, h3, h4, hg, hn, hf, hgl⟩ := h.get
  have hu : dused d = x.length + y.length := by
    unfold dused
    rw [if_neg (by rw [h.calm.1]; simp), h1]
    simp [dsum, h3, h4]
  have hr : drefused d (.write m s) = 0 := by
    show (if (tget d.now m).isSome = false then 18 else if d.room < dused d + s.length then 19 else 0) = 0
    rw [hg, if_neg (by simp), hu, h.room, if_neg (by omega)]
  have hc := h.calm.do (.write m s)
  have hk := h.ok.do (.write m s)
  rw [ddo_calm h.calm hr] at hc hk ⊢
  refine ⟨rfl, hc, hk, (dact_room _ _ _).trans h.room, h.lt, f, g, h1, h2, ?_, ?_⟩
  · show (fat (fmod d.files ((tget d.now m).getD 0) fun f => ⟨f.data ++ s, f.safe⟩) f).data = _
    rw [hg]
    show (fat (fmod d.files g _) f).data = _
    rw [fat_fmod _ _ _ _ hgl, if_neg (by omega), h3]
  · show (fat (fmod d.files ((tget d.now m).getD 0) fun f => ⟨f.data ++ s, f.safe⟩) g).data = _
    rw [hg]
    show (fat (fmod d.files g _) g).data = _
    rw [fat_fmod _ _ _ _ hgl, if_pos rfl, h4]
theorem Handed.sync (h : Handed d n m x y R) : (ddo d (.sync m)).2 = 0 ∧ Handed (ddo d (.sync m)).1 n m x y R := by
  obtain ⟨f, g, h1, h2, h3, h4, hg, hn, hf, hgl⟩ := h.get
  obtain ⟨a, b, _, _, e, _⟩ := sync_one h.ok h.calm hg
  have hr : drefused d (.sync m) = 0 := by simp [drefused, hg]
  refine ⟨a, h.calm.do _, h.ok.do _, ?_, h.lt, f, g, b.trans h1, h2, (e f).trans h3, (e g).trans h4⟩
  rw [ddo_calm h.calm hr]
  exact (dact_room _ _ _).trans h.room
theorem Handed.laid (h : Handed d n m x y R) (hb : badName n = false) : (ddo d (.rename m n)).2 = 0 ∧ Lone (ddo d (.rename m n)).1 n y R := by
  obtain ⟨f, g, h1, h2, h3, h4, hg, hn, hf, hgl⟩ := h.get
  have hr : drefused d (.rename m n) = 0 := by
    show (if (tget d.now m).isSome = false then 18 else if badName n = true then 21 else 0) = 0
    rw [hg, hb]
    rfl
  have hne := nlt_ne h.lt
  have hc := h.calm.do (.rename m n)
  have hk := h.ok.do (.rename m n)
  rw [ddo_calm h.calm hr] at hc hk ⊢
  refine ⟨rfl, hc, hk, (dact_room _ _ _).trans h.room, g, ?_, h4⟩
  show tdone d.now (.rn m n) = _
  rw [h1]
  simp only [tdone]
  rw [h1] at hg
  rw [hg]
  simp [tout, tins, hne, nlt_irrefl]
end Go.Proofs.YtfgpigblnkanpaaGreatDoor
