/- The walk of the journal's beginning. -/
import Derived.Test.YtfgpigblnkanpaaGreatDoorJa
import Derived.Test.YtfgpigblnkanpaaGreatDoorGP
namespace Go.Proofs.YtfgpigblnkanpaaGreatDoor
open Go.RowKit Go.Maps Go.Shelf
set_option linter.unusedVariables false

theorem infoStrJ : (Tryz.prog.info? 9).map (fun i => (i.zero, i.size, i.bytes)) = some (some (strV []), 1, 16) := by kernel_rfl
set_option maxHeartbeats 2000000 in
set_option maxRecDepth 100000 in
theorem jbeginning_any (l : List UInt8) (w : World) (hl : l.length ≤ 8796093022208) : Calls Tryz.prog 134 #[strV l] w fun e w' => ∃ v, e = .returned (.tuple #[v, .int .i64 (jbegin l).2]) ∧ w'.ownsRow w.heap.size 9 1 v (jbegin l).1.length ((jbegin l).1.map strV) ∧ Below w.heap.size w w' := by
  obtain ⟨i0, hi, hz0, hz1, hz2⟩ := info_parts infoStrJ
  go_enter Tryz.func134, Tryz.ntmps134
  go_wp2_with (fail)
  go_loopw [4, 5] (fun v iv wr => ∃ (p : Nat) (R : List (List UInt8)), iv = .int .i64 p ∧ p ≤ l.length ∧ R.length ≤ p ∧ wr.ownsRow w.heap.size 9 1 v R.length (R.map strV) ∧ Hid (jbegin l = (R ++ (jbegin (l.drop p)).1, p + (jbegin (l.drop p)).2)) ∧ Below w.heap.size w wr) (fun _ iv _ => l.length - (intOf iv).toNat)
  case atStart => exact ⟨0, [], rfl, Nat.zero_le _, Nat.zero_le _, World.ownsRow_nil _ _ _ _, by show _ = _; simp, Below.refl _ _⟩
  case round =>
    obtain ⟨p, R, rfl, hp, hRp, hown, hE, hbel⟩ := hrel
    have hsz := hbel.size
    have hN := jnext_any l p wr hp (by omega)
    cases hj : jnext (l.drop p) with
    | none =>
      rw [hj] at hN
      have hE2 : jbegin l = (R, p) := by have := hE.out; rw [jbegin_none hj] at this; simpa using this
      have HN := Lib.hid hN
      have HE := Lib.hid hE2
      have HO := Lib.hid hown
      have HB := Lib.hid hbel
      obtain ⟨va, vc, rfl, -⟩ := row_open hown
      clear hN hj hE2 hE hown hbel
      go_wp2_with (fail)
      refine HN.out.mono ?_
      rintro e w1 ⟨rfl, hb1⟩
      unfold nextV
      have HB1 := Lib.hid (HB.out.trans (hb1.mono hsz))
      have HO1 := Lib.hid (row_below HO.out hb1)
      clear hb1
      go_wp2
      go_ret2
      rw [HE.out]
      exact ⟨_, rfl, HO1.out, HB1.out⟩
    | some x =>
      obtain ⟨r, m⟩ := x
      rw [hj] at hN
      obtain ⟨hm1, hm2, hrl, -⟩ := jnext_le hj
      rw [List.length_drop] at hm2
      have hE2 : Hid (jbegin l = (R ++ [r] ++ (jbegin (l.drop (p + m))).1, p + m + (jbegin (l.drop (p + m))).2)) := by
        show _ = _
        have := hE.out
        rw [jbegin_some hj, List.drop_drop] at this
        rw [this]
        simp [Nat.add_assoc]
      have HN := Lib.hid hN
      have HO := Lib.hid hown
      have HB := Lib.hid hbel
      obtain ⟨va, vc, rfl, -⟩ := row_open hown
      clear hN hj hE hown hbel
      go_wp2_with (fail)
      refine HN.out.mono ?_
      rintro e w1 ⟨rfl, hb1⟩
      unfold nextV
      have HB1 := Lib.hid (HB.out.trans (hb1.mono hsz))
      have HO1 := Lib.hid (row_below HO.out hb1)
      have hsz1 := hb1.size
      clear hb1
      go_wp2_with (fail)
      refine (Clone_any r w1 (by omega)).mono ?_
      rintro e w2 ⟨rfl, hb2⟩
      have HB2 := Lib.hid (HB1.out.trans (hb2.mono HB1.out.size))
      have hown2 := row_below HO1.out hb2
      have hsz2 := hb2.size
      clear hb2
      go_wp2_with (at_builtin; refine wpList_append_own _ rfl _ _ 37 rfl w.heap.size 9 i0 (strV []) 1 16 Tryz.underlying37 hi hz0 hz1 hz2 rfl (by decide) (.slice va R.length vc) R.length (R.map strV) rfl (hown2.alloc _) ⟨w2.heap.size, 0, none⟩ 1 1 [strV r] rfl rfl ?c1 ?c2 ?c3 ?c4 ?c5 ?_)
      case c1 => exact World.news_of_block (cs := #[strV r]) (t := 9) (fr := (0, 0)) (heap_alloc_new w2 _)
      case c2 => intro u hu; simp at hu; subst hu; rfl
      case c3 => unfold maxLen; omega
      case c4 => omega
      case c5 => have := HB2.out.size; simp; omega
      intro v' w5 hown5 hgrow5 hv5
      have hbel5 : Below w.heap.size w w5 := (HB2.out.alloc HB2.out.size _).grown hgrow5 (by have := HB2.out.size; simp; omega) (fun j hj => (hown2.lt j hj).1)
      rw [show R.map strV ++ [strV r] = (R ++ [r]).map strV from by simp] at hown5
      obtain ⟨wa, wc, rfl, -⟩ := row_open hown5
      have HO5 := Lib.hid hown5
      have HB5 := Lib.hid hbel5
      clear hown5 hgrow5 hv5 hown2 hbel5
      go_wp2
      go_roundw
      case rel => exact ⟨p + m, R ++ [r], by go_num, by omega, by simp; omega, by simpa using HO5.out, hE2, HB5.out⟩
      case measure => simp [intOf]; omega
end Go.Proofs.YtfgpigblnkanpaaGreatDoor
