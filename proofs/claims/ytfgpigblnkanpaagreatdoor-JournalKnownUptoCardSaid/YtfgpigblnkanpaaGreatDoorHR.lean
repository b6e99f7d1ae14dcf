/- The document's journal: Frame. The document's journal: the record whose frame stands at the beginning of bytes. The document's journal: the beginning of bytes. -/
import Derived.Test.YtfgpigblnkanpaaGreatDoorHI
import Derived.Test.YtfgpigblnkanpaaGreatDoorHQ
import Derived.Deep.RegionHeld3
import Derived.Test.YtfgpigblnkanpaaGreatDoorGP
namespace Go.Proofs.YtfgpigblnkanpaaGreatDoor
open Go.RowKit Go.Maps Go.Shelf
set_option linter.unusedVariables false
set_option linter.unusedSimpArgs false

set_option maxHeartbeats 1000000 in
set_option maxRecDepth 100000 in
theorem qFrame_any (r : List UInt8) (w : World) (hr : r.length ≤ 140737488351232) : Calls Tryz.prog 138 #[strV r] w fun e w' => e = .returned (strV (jframe r)) ∧ Below w.heap.size w w' := by
  have hU := refUint_any (r.length + 1) w (by omega)
  rw [show ((r.length + 1 : Nat) : Int) = (r.length : Int) + 1 from by omega] at hU
  have hsz := str_size r
  have hul := uintL_len (n := r.length + 1) (by omega)
  have hS2 : ∀ W, Calls Tryz.prog 162 #[.string (str (uintL (r.length + 1) ++ r))] W fun e w' => e = .returned (.int .u32 (crc (uintL (r.length + 1) ++ r) : Nat)) ∧ Below W.heap.size W w' := fun W =>
    (refSum_any (uintL (r.length + 1) ++ r) W (by rw [List.length_append]; omega)).mono fun e w' ⟨h1, h2⟩ => ⟨h1, h2 ▸ Below.refl _ _⟩
  have HU := Lib.hid hU
  have HS := Lib.hid hS2
  have hsz1 := str_size (uintL (r.length + 1))
  have happ := str_append (uintL (r.length + 1)) r
  clear hU hS2
  generalize hu : uintL (r.length + 1) = u at *
  have HUE := Lib.hid hu
  clear hu
  go_enter Tryz.func138, Tryz.ntmps138
  go_wp2_with (fail)
  refine HU.out.mono ?_
  rintro e w1 ⟨rfl, hb1⟩
  have HB1 := Lib.hid hb1
  clear hb1
  go_wp2_with (fail)
  refine (HS.out w1).mono ?_
  rintro e w2 ⟨rfl, hb2⟩
  have HB2 := Lib.hid (HB1.out.trans (hb2.mono HB1.out.size))
  clear hb2
  have hcv : ∀ c, c = crc (u ++ r) → (convert 140 9 (.slice (some ⟨w2.heap.size, 0, none⟩) 4 4)).run Tryz.prog (w2.alloc (.cells #[Value.int .u8 ((c : Int) % 256), Value.int .u8 ((c : Int) / 256 % 256), Value.int .u8 ((c : Int) / 65536 % 256), Value.int .u8 ((c : Int) / 16777216 % 256)] 5)) = .ok (strV (crcTail (u ++ r))) (w2.alloc (.cells #[Value.int .u8 ((c : Int) % 256), Value.int .u8 ((c : Int) / 256 % 256), Value.int .u8 ((c : Int) / 65536 % 256), Value.int .u8 ((c : Int) / 16777216 % 256)] 5)) := by
    intro c hc
    refine conv_bytes (Blk.new w2 [_, _, _, _] 5) Tryz.underlying140 Tryz.underlying5 Tryz.underlying9 (crcTail (u ++ r)) [] 4 4 rfl ?_
    rw [four_cells, crcTail, hc, List.append_nil]
  generalize hcc : crc (u ++ r) = c at ⊢
  have hcv := hcv c hcc.symm
  have HCC := Lib.hid hcc
  clear hcc
  generalize htl : crcTail (u ++ r) = tl at *
  have happ2 := str_append u tl
  have happ3 := str_append (u ++ tl) r
  have htlen : tl.length = 4 := by rw [← htl]; rfl
  have hsz2 := str_size tl
  have hsz3 := str_size (u ++ tl)
  have hlen3 : (u ++ tl).length = u.length + tl.length := List.length_append
  have HTL := Lib.hid htl
  clear htl happ
  go_wp2
  go_ret
  have hfr : Value.string (str (u ++ (tl ++ r))) = strV (jframe r) := by
    unfold jframe
    rw [HUE.out, HTL.out]
  exact ⟨congrArg Ending.returned hfr, HB2.out.alloc HB2.out.size _⟩
end Go.Proofs.YtfgpigblnkanpaaGreatDoor

namespace Go.Proofs.YtfgpigblnkanpaaGreatDoor
open Go.RowKit Go.Maps Go.Shelf
set_option linter.unusedVariables false
set_option linter.unusedSimpArgs false

/-- What first answers. -/
def FirstIs (e : Ending) : Option (List UInt8 × Nat) → Prop
  | none => ∃ x, e = .returned (.tuple #[strV x, .bool false])
  | some (r, m) => e = .returned (.tuple #[strV r, .bool true])
set_option maxHeartbeats 2000000 in
set_option maxRecDepth 100000 in
theorem qfirst_any (t : List UInt8) (w : World) (hl : t.length ≤ 140737488351232) : Calls Tryz.prog 181 #[strV t] w fun e w' => FirstIs e (jnext t) ∧ Below w.heap.size w w' := by
  have hR := refReadUint_in (str t) 0 w (Nat.zero_le _) (by rw [str_size]; omega)
  rw [show (str t).data.toList = t from rfl, List.drop_zero] at hR
  by_cases h0 : (readU 0 0 t).2.2 = 0
  · obtain ⟨q1, q2, q3, q4⟩ := readU_ok h0
    rw [h0] at hR
    by_cases hn0 : (readU 0 0 t).1 = 0
    · have hj : jnext t = none := by unfold jnext; rw [if_pos (Or.inr (Or.inl hn0))]
      rw [hj]
      rw [hn0] at hR
      have HR := Lib.hid hR
      clear hR h0 hn0 q1 q2 q3 q4 hj
      go_enter Tryz.func181, Tryz.ntmps181
      go_wp2_with (fail)
      refine HR.out.mono ?_
      rintro e w1 ⟨rfl, rfl⟩
      go_wp2
      go_ret2
      exact ⟨⟨[], rfl⟩, Below.refl _ _⟩
    · by_cases hbig : 16777216 < (readU 0 0 t).1 - 1
      · have hj : jnext t = none := by unfold jnext; rw [if_pos (Or.inr (Or.inr hbig))]
        rw [hj]
        have HR := Lib.hid hR
        clear hR h0 hj
        generalize (readU 0 0 t).2.1 = x at *
        generalize (readU 0 0 t).1 = n at *
        have hq : ((n : Int) == 0) = false := by simp; omega
        have hq2 : (16777217 : Int) < (n : Int) := by omega
        clear hn0 hbig
        go_enter Tryz.func181, Tryz.ntmps181
        go_wp2_with (fail)
        refine HR.out.mono ?_
        rintro e w1 ⟨rfl, rfl⟩
        go_wp2
        go_ret2
        exact ⟨⟨[], rfl⟩, Below.refl _ _⟩
      · by_cases hsh : t.length < (readU 0 0 t).2.1 + 4 + ((readU 0 0 t).1 - 1)
        · have hj : jnext t = none := by unfold jnext; rw [if_neg (by omega), if_pos (Or.inl hsh)]
          rw [hj]
          have HR := Lib.hid hR
          clear hR h0 hj
          generalize (readU 0 0 t).2.1 = x at *
          generalize (readU 0 0 t).1 = n at *
          have hq : ((n : Int) == 0) = false := by simp; omega
          have hq2 : ¬ (16777217 : Int) < (n : Int) := by omega
          have hw1 : IntKind.i64.wrap (n : Int) = (n : Int) := IntWalk.i64_in _ (by omega)
          have hsz := str_size t
          have hge : (t.length : Int) < (x : Int) + 4 + (n : Int) - 1 := by omega
          clear hn0 hbig hsh
          go_enter Tryz.func181, Tryz.ntmps181
          go_wp2_with (fail)
          refine HR.out.mono ?_
          rintro e w1 ⟨rfl, rfl⟩
          go_wp2
          go_ret2
          exact ⟨⟨[], rfl⟩, Below.refl _ _⟩
        · obtain ⟨m, hm⟩ : ∃ m, m = (readU 0 0 t).2.1 + 4 + ((readU 0 0 t).1 - 1) := ⟨_, rfl⟩
          obtain ⟨f, hf⟩ : ∃ f, f = (readU 0 0 t).2.1 + 4 := ⟨_, rfl⟩
          have hx1 : (str t).extract f m = str ((t.take m).drop f) := by
            rw [str_extract, List.drop_take]
          have hx2 : (str t).extract 0 m = str (t.take m) := by
            rw [str_extract]; simp
          have hrl : ((t.take m).drop f).length ≤ 140737488351232 := by rw [List.length_drop, List.length_take]; omega
          have HF := Lib.hid fun W => qFrame_any ((t.take m).drop f) W hrl
          have hj : jnext t = if jframe ((t.take m).drop f) ≠ t.take m then none else some ((t.take m).drop f, m) := by
            unfold jnext
            rw [if_neg (by omega), ← hm, ← hf]
            by_cases e : jframe ((t.take m).drop f) ≠ t.take m
            · rw [if_pos (Or.inr e), if_pos e]
            · rw [if_neg e, if_neg (fun h => h.elim (fun h => by omega) e)]
          have HR := Lib.hid hR
          clear hR h0
          generalize (readU 0 0 t).2.1 = x at *
          generalize (readU 0 0 t).1 = n at *
          have hq : ((n : Int) == 0) = false := by simp; omega
          have hq2 : ¬ (16777217 : Int) < (n : Int) := by omega
          have hw1 : IntKind.i64.wrap (n : Int) = (n : Int) := IntWalk.i64_in _ (by omega)
          have hsz := str_size t
          have hle : ¬ (t.length : Int) < (x : Int) + 4 + (n : Int) - 1 := by omega
          have hle2 : (x : Int) + 4 + (n : Int) - 1 ≤ (t.length : Int) := by omega
          have hp0 : (0 : Int) ≤ (x : Int) + 4 := by omega
          have hp1 : (x : Int) + 4 ≤ (x : Int) + 4 + (n : Int) - 1 := by omega
          have hp2 : ((x : Int) + 4).toNat = f := by omega
          have hp3 : ((x : Int) + 4 + (n : Int) - 1).toNat = m := by omega
          have hp4 : (0 : Int) ≤ (x : Int) + 4 + (n : Int) - 1 := by omega
          have hp6 : (1 : Int) ≤ (x : Int) + 4 + (n : Int) := by omega
          have hd1 : decide ((16777217 : Int) < (n : Int)) = false := decide_eq_false (by omega)
          have hd2 : decide ((t.length : Int) < (x : Int) + 4 + (n : Int) - 1) = false := decide_eq_false (by omega)
          rw [hj]
          generalize (t.take m).drop f = r at *
          generalize t.take m = u at *
          clear hn0 hbig hsh hj hm hf
          by_cases hfr : jframe r = u
          · have heq : ((str (jframe r)).toList == (str u).toList) = true := by rw [hfr]; simp
            rw [if_neg (by simpa using hfr)]
            clear hfr
            go_enter Tryz.func181, Tryz.ntmps181
            go_wp2_with (fail)
            refine HR.out.mono ?_
            rintro e w1 ⟨rfl, rfl⟩
            go_wp2_with (fail)
            go_region_held3 (fun _ => True) (trivial) (first
              | (go_at_call 138; refine (HF.out _).mono ?_; rintro e w2 ⟨rfl, hb2⟩))
            have hb3 := below_undrew hb2
            clear hb2
            go_wp2
            go_ret2
            exact ⟨rfl, hb3⟩
          · have heq : ((str (jframe r)).toList == (str u).toList) = false := by rw [toList_str, toList_str]; simpa using hfr
            rw [if_pos (by simpa using hfr)]
            clear hfr
            go_enter Tryz.func181, Tryz.ntmps181
            go_wp2_with (fail)
            refine HR.out.mono ?_
            rintro e w1 ⟨rfl, rfl⟩
            go_wp2_with (fail)
            go_region_held3 (fun _ => True) (trivial) (first
              | (go_at_call 138; refine (HF.out _).mono ?_; rintro e w2 ⟨rfl, hb2⟩))
            have hb3 := below_undrew hb2
            clear hb2
            go_wp2
            go_ret2
            exact ⟨⟨r, rfl⟩, hb3⟩
  · obtain ⟨q1, q2, q3⟩ := readU_bad0 t 0 0 h0
    have hj : jnext t = none := by unfold jnext; rw [if_pos (Or.inl h0)]
    rw [hj]
    rw [q1, q2] at hR
    have hne : (((readU 0 0 t).2.2 : Nat) : Int) ≠ 0 := by omega
    have HR := Lib.hid hR
    clear hR h0 q1 q2 q3 hj
    generalize (readU 0 0 t).2.2 = no at *
    have hq : ((no : Int) != 0) = true := by simpa using hne
    clear hne
    go_enter Tryz.func181, Tryz.ntmps181
    go_wp2_with (fail)
    refine HR.out.mono ?_
    rintro e w1 ⟨rfl, rfl⟩
    go_wp2
    go_ret2
    exact ⟨⟨[], rfl⟩, Below.refl _ _⟩
end Go.Proofs.YtfgpigblnkanpaaGreatDoor

namespace Go.Proofs.YtfgpigblnkanpaaGreatDoor
open Go.RowKit Go.Maps Go.Shelf
set_option linter.unusedVariables false
set_option linter.unusedSimpArgs false

theorem infoStrQ : (Tryz.prog.info? 9).map (fun i => (i.zero, i.size, i.bytes)) = some (some (strV []), 1, 16) := by kernel_rfl
set_option maxHeartbeats 2000000 in
set_option maxRecDepth 100000 in
theorem qBeginning_any (l : List UInt8) (w : World) (hl : l.length ≤ 8796093022208) : Calls Tryz.prog 160 #[strV l] w fun e w' => ∃ v, e = .returned (.tuple #[v, .int .i64 (jbegin l).2]) ∧ w'.ownsRow w.heap.size 9 1 v (jbegin l).1.length ((jbegin l).1.map strV) ∧ Below w.heap.size w w' := by
  obtain ⟨i0, hi, hz0, hz1, hz2⟩ := info_parts infoStrQ
  go_enter Tryz.func160, Tryz.ntmps160
  go_wp2_with (fail)
  go_loopw [4, 5] (fun v iv wr => ∃ (p : Nat) (R : List (List UInt8)), iv = .int .i64 p ∧ p ≤ l.length ∧ R.length ≤ p ∧ wr.ownsRow w.heap.size 9 1 v R.length (R.map strV) ∧ Hid (jbegin l = (R ++ (jbegin (l.drop p)).1, p + (jbegin (l.drop p)).2)) ∧ Below w.heap.size w wr) (fun _ iv _ => l.length - (intOf iv).toNat)
  case atStart => exact ⟨0, [], rfl, Nat.zero_le _, Nat.zero_le _, World.ownsRow_nil _ _ _ _, by show _ = _; simp, Below.refl _ _⟩
  case round =>
    obtain ⟨p, R, rfl, hp, hRp, hown, hE, hbel⟩ := hrel
    have hsz := hbel.size
    have hN := qfirst_any (l.drop p) wr (by rw [List.length_drop]; omega)
    have hsl := str_size l
    have hx1 : (str l).extract p l.length = str (l.drop p) := by rw [str_extract]; simp
    have ik0 : (0 : Int) ≤ (p : Int) := by omega
    have ik1 : (p : Int) ≤ (l.length : Int) := by omega
    cases hj : jnext (l.drop p) with
    | none =>
      rw [hj] at hN
      have hE2 : jbegin l = (R, p) := by have := hE.out; rw [jbegin_none hj] at this; simpa using this
      have HN := Lib.hid hN
      have HE := Lib.hid hE2
      have HO := Lib.hid hown
      have HB := Lib.hid hbel
      obtain ⟨va, vc, rfl, -⟩ := row_open hown
      clear hN hj hE2 hE hown hbel
      go_wp2_with (fail)
      refine HN.out.mono ?_
      rintro e w1 ⟨⟨x, rfl⟩, hb1⟩
      have HB1 := Lib.hid (HB.out.trans (hb1.mono hsz))
      have HO1 := Lib.hid (row_below HO.out hb1)
      clear hb1
      go_wp2
      go_ret2
      rw [HE.out]
      exact ⟨_, rfl, HO1.out, HB1.out⟩
    | some x =>
      obtain ⟨r, m⟩ := x
      rw [hj] at hN
      obtain ⟨hm1, hm2, hrl, hfr⟩ := jnext_le hj
      have hfl : (jframe r).length = m := by rw [hfr, List.length_take]; omega
      rw [List.length_drop] at hm2
      have hF := fun W => qFrame_any r W (by omega)
      have hsf := str_size (jframe r)
      rw [hfl] at hsf
      have HF := Lib.hid hF
      clear hF hfr hfl
      have hE2 : Hid (jbegin l = (R ++ [r] ++ (jbegin (l.drop (p + m))).1, p + m + (jbegin (l.drop (p + m))).2)) := by
        show _ = _
        have := hE.out
        rw [jbegin_some hj, List.drop_drop] at this
        rw [this]
        simp [Nat.add_assoc]
      have HN := Lib.hid hN
      have HO := Lib.hid hown
      have HB := Lib.hid hbel
      obtain ⟨va, vc, rfl, -⟩ := row_open hown
      clear hN hj hE hown hbel
      go_wp2_with (fail)
      refine HN.out.mono ?_
      rintro e w2 ⟨rfl, hb1⟩
      have HB2 := Lib.hid (HB.out.trans (hb1.mono hsz))
      have hown2 := row_below HO.out hb1
      have hsz2 := hb1.size
      clear hb1
      go_wp2_with (at_builtin; refine wpList_append_own _ rfl _ _ 37 rfl w.heap.size 9 i0 (strV []) 1 16 Tryz.underlying37 hi hz0 hz1 hz2 rfl (by decide) (.slice va R.length vc) R.length (R.map strV) rfl (hown2.alloc _) ⟨w2.heap.size, 0, none⟩ 1 1 [strV r] rfl rfl ?c1 ?c2 ?c3 ?c4 ?c5 ?_)
      case c1 => exact World.news_of_block (cs := #[strV r]) (t := 9) (fr := (0, 0)) (heap_alloc_new w2 _)
      case c2 => intro u hu; simp at hu; subst hu; rfl
      case c3 => unfold maxLen; omega
      case c4 => omega
      case c5 => have := HB2.out.size; simp; omega
      intro v' w5 hown5 hgrow5 hv5
      have hbel5 : Below w.heap.size w w5 := (HB2.out.alloc HB2.out.size _).grown hgrow5 (by have := HB2.out.size; simp; omega) (fun j hj => (hown2.lt j hj).1)
      rw [show R.map strV ++ [strV r] = (R ++ [r]).map strV from by simp] at hown5
      obtain ⟨wa, wc, rfl, -⟩ := row_open hown5
      have HO5 := Lib.hid hown5
      have HB5 := Lib.hid hbel5
      clear hown5 hgrow5 hv5 hown2 hbel5
      go_wp2_with (fail)
      refine (HF.out _).mono ?_
      rintro e w6 ⟨rfl, hb6⟩
      have HO6 := Lib.hid (row_below HO5.out hb6)
      have HB6 := Lib.hid (HB5.out.trans (hb6.mono HB5.out.size))
      clear hb6
      go_wp2
      go_roundw
      case rel => exact ⟨p + m, R ++ [r], by go_num, by omega, by simp; omega, by simpa using HO6.out, hE2, HB6.out⟩
      case measure => simp [intOf]; omega
end Go.Proofs.YtfgpigblnkanpaaGreatDoor
