/- The walk of fated: a closed helper of the statement JournalKnown. -/
import Derived.Test.YtfgpigblnkanpaaGreatDoorSg
import Derived.Test.YtfgpigblnkanpaaGreatDoorTd
import Derived.Deep.CutRange
namespace Go.Proofs.YtfgpigblnkanpaaGreatDoor
open Go.RowKit Go.Maps Go.Shelf
set_option linter.unusedVariables false
set_option linter.unusedSimpArgs false

theorem flat4 : ∀ (ls : List (List Value)), (∀ l ∈ ls, l.length = 4) → ∀ (i : Nat) (l : List Value) (j : Nat) (x : Value), ls[i]? = some l → l[j]? = some x → ls.flatten[i * 4 + j]? = some x
  | [], _, i, l, j, x, h, _ => by simp at h
  | m :: ls, hl, 0, l, j, x, h, hx => by
    simp only [List.getElem?_cons_zero, Option.some.injEq] at h
    subst h
    obtain ⟨hj, _⟩ := List.getElem?_eq_some_iff.1 hx
    simp only [Nat.zero_mul, Nat.zero_add, List.flatten_cons]
    rw [List.getElem?_append_left hj]
    exact hx
  | m :: ls, hl, i + 1, l, j, x, h, hx => by
    simp only [List.getElem?_cons_succ] at h
    have hm := hl m List.mem_cons_self
    rw [List.flatten_cons, List.getElem?_append_right (by omega), show (i + 1) * 4 + j - m.length = i * 4 + j from by omega]
    exact flat4 ls (fun l hl2 => hl l (List.mem_cons_of_mem _ hl2)) i l j x h hx
/-- Calls written out in memory. -/
theorem ActsAt.lit {W : World} {b : Nat} {t : TypeId} (ps : List (Ac × Value)) (hx : Blk W b (ps.map fun p => p.1.cells p.2).flatten t) (hk : ∀ p ∈ ps, ∃ ka kn kc, p.2 = .slice ka kn kc ∧ IntsAt W (.slice ka kn kc) p.1.keep) : ActsAt W (.slice (some ⟨b, 0, none⟩) ps.length ps.length) (ps.map (·.1)) := by
  refine ⟨some ⟨b, 0, none⟩, ps.length, by rw [List.length_map], fun i s hs => ?_⟩
  rw [List.getElem?_map] at hs
  obtain ⟨p, hp, rfl⟩ := Option.map_eq_some_iff.1 hs
  obtain ⟨ka, kn, kc, e, hi⟩ := hk p (List.mem_of_getElem? hp)
  refine ⟨b, 0, ka, kn, kc, rfl, fun j x hj => ?_, hi⟩
  rw [Nat.zero_add, hx.cell]
  refine flat4 _ (fun l hl => ?_) i (p.1.cells p.2) j x ?_ (by rw [e]; exact hj)
  · obtain ⟨q, _, rfl⟩ := List.mem_map.1 hl
    rfl
  · rw [List.getElem?_map, hp]
    rfl
theorem ActsAt.below {w w' : World} {v : Value} {ss : List Ac} (h : ActsAt w v ss) (hb : Below w.heap.size w w') : ActsAt w' v ss := by
  obtain ⟨a, cap, e, h2⟩ := h
  refine ⟨a, cap, e, fun i s hs => ?_⟩
  obtain ⟨b, off, ka, kn, kc, e2, hc, hi⟩ := h2 i s hs
  exact ⟨b, off, ka, kn, kc, e2, fun j x hj => by have := hc j x hj; exact (hb.cell (World.block_lt_of_cell? w _ this)).trans this, hi.below hb⟩
theorem ActsAt.tail {w : World} {b off n cap : Nat} {s : Ac} {ss : List Ac} (h : ActsAt w (.slice (some ⟨b, off, none⟩) n cap) (s :: ss)) (m : Nat) : ActsAt w (.slice (some ⟨b, off + 4, none⟩) ss.length m) ss := by
  obtain ⟨a, cap', e, h2⟩ := h
  simp only [Value.slice.injEq] at e
  obtain ⟨rfl, -, -⟩ := e
  refine ⟨_, m, rfl, fun i s hs => ?_⟩
  obtain ⟨b', off', ka, kn, kc, e2, hc, hi⟩ := h2 (i + 1) s (by simpa using hs)
  simp only [Option.some.injEq, Addr.mk.injEq, and_true] at e2
  obtain ⟨rfl, rfl⟩ := e2
  refine ⟨b, off + 4, ka, kn, kc, rfl, fun j x hj => ?_, hi⟩
  have := hc j x hj
  rw [show off + 4 + i * 4 + j = off + (i + 1) * 4 + j from by omega]
  exact this
theorem wf64_six {a b c d : Int} (h1 : -9223372036854775808 ≤ a ∧ a ≤ 9223372036854775807) (h2 : -9223372036854775808 ≤ b ∧ b ≤ 9223372036854775807) (h3 : -9223372036854775808 ≤ c ∧ c ≤ 9223372036854775807) (h4 : -9223372036854775808 ≤ d ∧ d ≤ 9223372036854775807) : wf64 [a, b, c, d, 1, 1] := by
  intro x hx
  simp only [List.mem_cons, List.not_mem_nil, or_false] at hx
  rcases hx with rfl | rfl | rfl | rfl | rfl | rfl
  · exact h1
  · exact h2
  · exact h3
  · exact h4
  · exact ⟨by decide, by decide⟩
  · exact ⟨by decide, by decide⟩
def ftPs (T : Nm) (n : Int) (kv : Value) (keep : List Int) : List (Ac × Value) :=
  [(⟨7, T, 0, []⟩, .slice none 0 0), (⟨7, [108, 101, 102, 116], 1, []⟩, .slice none 0 0), (⟨3, [], n, keep⟩, kv), (⟨6, [], 0, []⟩, .slice none 0 0), (⟨5, [], 0, []⟩, .slice none 0 0), (⟨6, [], 0, []⟩, .slice none 0 0),
   (⟨0, [97], 0, []⟩, .slice none 0 0), (⟨3, [], n, keep⟩, kv), (⟨0, [98, 98], 0, []⟩, .slice none 0 0), (⟨5, [], 0, []⟩, .slice none 0 0), (⟨6, [], 0, []⟩, .slice none 0 0), (⟨3, [], n, keep⟩, kv), (⟨2, [], 0, []⟩, .slice none 0 0), (⟨5, [], 0, []⟩, .slice none 0 0),
   (⟨0, [], 0, []⟩, .slice none 0 0), (⟨6, [], 0, []⟩, .slice none 0 0), (⟨8, [], 0, []⟩, .slice none 0 0), (⟨0, [120], 0, []⟩, .slice none 0 0), (⟨6, [], 0, []⟩, .slice none 0 0), (⟨7, T, 0, []⟩, .slice none 0 0), (⟨3, [], n, keep⟩, kv), (⟨6, [], 0, []⟩, .slice none 0 0), (⟨5, [], 0, []⟩, .slice none 0 0), (⟨6, [], 0, []⟩, .slice none 0 0)]
theorem ft_ok {T : Nm} {n : Int} {kv : Value} {keep : List Int} (hT : T.length ≤ 1000) (hn : 0 ≤ n ∧ n ≤ 100) (hk : keep.length ≤ 100) (hw : wf64 keep) : ∀ a ∈ (ftPs T n kv keep).map (·.1), AcOk a := by
  have hw0 : wf64 [] := fun x hx => by cases hx
  intro a ha
  unfold ftPs at ha
  simp only [List.map_cons, List.map_nil, List.mem_cons, List.not_mem_nil, or_false] at ha
  rcases ha with rfl | rfl | rfl | rfl | rfl | rfl | rfl | rfl | rfl | rfl | rfl | rfl | rfl | rfl | rfl | rfl | rfl | rfl | rfl | rfl | rfl | rfl | rfl | rfl <;>
    (refine ⟨?_, ?_, ?_, ?_, ?_⟩ <;> first | assumption | (simp; done) | (simp only []; omega) | omega)
theorem ft_kv {W : World} {T : Nm} {n : Int} {kb : Nat} {keep : List Int} (hi : IntsAt W (.slice (some ⟨kb, 0, none⟩) 6 6) keep) : ∀ p ∈ ftPs T n (.slice (some ⟨kb, 0, none⟩) 6 6) keep, ∃ ka kn kc, p.2 = .slice ka kn kc ∧ IntsAt W (.slice ka kn kc) p.1.keep := by
  have h0 : IntsAt W (.slice none 0 0) [] := Or.inl ⟨rfl, none, 0, rfl⟩
  intro p hp
  unfold ftPs at hp
  simp only [List.mem_cons, List.not_mem_nil, or_false] at hp
  rcases hp with rfl | rfl | rfl | rfl | rfl | rfl | rfl | rfl | rfl | rfl | rfl | rfl | rfl | rfl | rfl | rfl | rfl | rfl | rfl | rfl | rfl | rfl | rfl | rfl <;>
    first | exact ⟨_, _, _, rfl, h0⟩ | exact ⟨_, _, _, rfl, hi⟩
set_option maxRecDepth 100000 in
theorem ft_acts {W : World} {T : Nm} {n : Int} {kb : Nat} {keep : List Int} (hi : IntsAt W (.slice (some ⟨kb, 0, none⟩) 6 6) keep) :
    ActsAt (W.alloc (.cells ((ftPs T n (.slice (some ⟨kb, 0, none⟩) 6 6) keep).map fun p => p.1.cells p.2).flatten.toArray 81)) (.slice (some ⟨W.heap.size, 0, none⟩) 24 24) ((ftPs T n (.slice (some ⟨kb, 0, none⟩) 6 6) keep).map (·.1)) :=
  ActsAt.lit (ftPs T n (.slice (some ⟨kb, 0, none⟩) 6 6) keep) (Blk.new W _ _) (ft_kv (hi.below ((Below.refl _ W).alloc (Nat.le_refl _) _)))
set_option maxHeartbeats 8000000 in
set_option maxRecDepth 100000 in
theorem fated_any (w : World) (hg : ErrorLaid w) : Calls Tryz.prog 41 #[] w fun e w' => e = .returned (.bool true) ∧ Below w.heap.size w w' := by
  have HG := Lib.hid hg
  clear hg
  have hA : (jframe [111, 110, 101]).length = 8 := by kernel_rfl
  have hB : (jframe []).length = 5 := by kernel_rfl
  have hC : (jframe [116, 119, 111]).length = 8 := by kernel_rfl
  have cA := fun W => lframe_any [111, 110, 101] W (by simp)
  have cB := fun W => lframe_any [] W (by simp)
  have cC := fun W => lframe_any [116, 119, 111] W (by simp)
  generalize jframe [111, 110, 101] = fA at *
  generalize jframe [] = fB at *
  generalize jframe [116, 119, 111] = fC at *
  have sA : (str fA).size = 8 := by rw [str_size, hA]
  have sB : (str fB).size = 5 := by rw [str_size, hB]
  have sC : (str fC).size = 8 := by rw [str_size, hC]
  have hAB := str_append fA fB
  have sAB : (str (fA ++ fB)).size = 13 := by rw [str_size, List.length_append, hA, hB]
  have hC5 : (str fC).extract 0 5 = str (fC.take 5) := by rw [str_extract]; simp
  have sC5 : (str (fC.take 5)).size = 5 := by rw [str_size, List.length_take, hC]; rfl
  have hT := str_append (fA ++ fB) (fC.take 5)
  have lT : (fA ++ fB ++ fC.take 5).length = 18 := by rw [List.length_append, List.length_append, List.length_take, hA, hB, hC]; rfl
  have sT : (str (fA ++ fB ++ fC.take 5)).size = 18 := by rw [str_size, lT]
  have CA := Lib.hid cA
  have CB := Lib.hid cB
  have CC := Lib.hid cC
  clear cA cB cC
  go_enter Tryz.func41, Tryz.ntmps41
  go_wp2_with (fail)
  refine (CA.out _).mono ?_
  rintro e w1 ⟨rfl, hb1⟩
  have HB1 := Lib.hid hb1
  clear hb1
  go_wp2_with (fail)
  refine (CB.out _).mono ?_
  rintro e w2 ⟨rfl, hb2⟩
  have HB2 := Lib.hid (HB1.out.trans (hb2.mono HB1.out.size))
  clear hb2 HB1
  go_wp2_with (fail)
  refine (CC.out _).mono ?_
  rintro e w3 ⟨rfl, hb3⟩
  have HB3 := Lib.hid (HB2.out.trans (hb3.mono HB2.out.size))
  clear hb3 HB2 CA CB CC
  go_upto_region 2 with (fail)
  have lT2 : (fA ++ (fB ++ List.take 5 fC)).length = 18 := by rw [← List.append_assoc]; exact lT
  clear sA sB sC hAB sAB hC5 sC5 hT lT sT
  generalize fA ++ (fB ++ List.take 5 fC) = T at *
  clear hA hB hC
  have sT : (str T).size = 18 := by rw [str_size, lT2]
  have LT := Lib.hid lT2
  clear lT2
  go_wp2_with (fail)
  go_loopw [2] (fun iv wr => ∃ n : Nat, iv = .int .i64 (n : Nat) ∧ 1 ≤ n ∧ n ≤ 8 ∧ Hid (Below w.heap.size w wr)) (fun iv _ => 9 - (intOf iv).toNat)
  case atStart => exact ⟨1, rfl, by omega, by omega, HB3.out⟩
  case round =>
    clear HB3
    obtain ⟨n, rfl, hn1, hn8, hbel⟩ := hrel
    by_cases hlt : n < 8
    · have ik : (n : Int) < 8 := by omega
      go_wp2_with (fail)
      go_loopw [3] (fun iv wr => ∃ k : Nat, iv = .int .i64 (k : Nat) ∧ k ≤ 16 ∧ Hid (Below w.heap.size w wr)) (fun iv _ => 17 - (intOf iv).toNat)
      case atStart => exact ⟨0, rfl, by omega, hbel.out⟩
      case round =>
        clear hbel
        obtain ⟨k, rfl, hk, hbel⟩ := hrel
        by_cases hkl : k < 16
        · have ikk : (k : Int) < 16 := by omega
          go_upto_region 8 with (fail)
          go_cut [4] from 18 to 85 (fun s4 wx => ∃ (kb : Nat) (keep : List Int), s4 = .slice (some ⟨kb, 0, none⟩) 6 6 ∧ Hid (keep.length = 6 ∧ wf64 keep ∧ Below w.heap.size w wx ∧ IntsAt wx (.slice (some ⟨kb, 0, none⟩) 6 6) keep))
          case first =>
            have hkc : k = 0 ∨ k = 1 ∨ k = 2 ∨ k = 3 ∨ k = 4 ∨ k = 5 ∨ k = 6 ∨ k = 7 ∨ k = 8 ∨ k = 9 ∨ k = 10 ∨ k = 11 ∨ k = 12 ∨ k = 13 ∨ k = 14 ∨ k = 15 := by omega
            clear hk hkl ikk
            rcases hkc with rfl | rfl | rfl | rfl | rfl | rfl | rfl | rfl | rfl | rfl | rfl | rfl | rfl | rfl | rfl | rfl
            all_goals
              go_wp2_with (fail)
              go_meet
              refine ⟨wr.heap.size, [_, _, _, _, 1, 1], rfl, ⟨rfl, ?_, hbel.out.trans (((Below.refl _ wr).alloc (Nat.le_refl _) _).mono hbel.out.size), IntsAt.lit wr [_, _, _, _, 1, 1] (by simp)⟩⟩
              exact wf64_six (by decide +kernel) (by decide +kernel) (by decide +kernel) (by decide +kernel)
          case rest =>
            clear hbel
            obtain ⟨kb, keep, rfl, hq⟩ := hcut
            obtain ⟨hk6, hkw, hbw, hik⟩ := hq.out
            generalize wc = W at *
            have HKW := Lib.hid hkw
            have HIK := Lib.hid hik
            have HBW := Lib.hid hbw
            clear hkw hik hbw hq
            go_upto_region 11 with (fail)
            go_cut [7] from 18 to 85 (fun s7 wx => ∃ b, s7 = .slice (some ⟨b, 0, none⟩) 24 24 ∧ Hid (Below w.heap.size w wx ∧ ActsAt wx (.slice (some ⟨b, 0, none⟩) 24 24) ((ftPs T n (.slice (some ⟨kb, 0, none⟩) 6 6) keep).map (·.1))))
            case first =>
              go_wp2_with (fail)
              go_meet
              have hb2 : Below W.heap.size W ((W.alloc (.cells #[.int .i64 3, .string { data := #[] }, .int .i64 n, .slice (some ⟨kb, 0, none⟩) 6 6] 81)).alloc (.cells #[.int .i64 7, .string (str T), .int .i64 0, .slice none 0 0] 81)) := ((Below.refl _ W).alloc (Nat.le_refl _) _).alloc (by simp) _
              have hV := ft_acts (T := T) (n := n) (HIK.out.below hb2)
              rw [World.size_alloc, World.size_alloc] at hV
              exact ⟨_, rfl, HBW.out.trans ((hb2.alloc (by simp only [World.size_alloc]; omega) _).mono HBW.out.size), hV⟩
            case rest =>
              obtain ⟨b, rfl, hq⟩ := hcut
              obtain ⟨hbx, hacts⟩ := hq.out
              clear hq
              generalize wc = X at *
              have hok := ft_ok (T := T) (n := (n : Int)) (kv := .slice (some ⟨kb, 0, none⟩) 6 6) (keep := keep) (by have := LT.out; omega) (by omega) (by omega) HKW.out
              have hP := fun W (hb : Below X.heap.size X W) (room : Int) => JournalPlays_any W room [106] (.slice (some ⟨b, 0, none⟩) 24 24) _ (hacts.below hb) hok (by simp [ftPs]) (by simp) (HG.out.below (hbx.trans (hb.mono hbx.size)))
              have ht : ActsAt X (.slice (some ⟨b, 4, none⟩) 23 23) ((ftPs T n (.slice (some ⟨kb, 0, none⟩) 6 6) keep).map (·.1)).tail := ActsAt.tail hacts 23
              have hP3 := fun W (hb : Below X.heap.size X W) (room : Int) => JournalPlays_any W room [110, 97, 109, 101] (.slice (some ⟨b, 4, none⟩) 23 23) _ (ht.below hb) (fun a ha => hok a (List.mem_of_mem_tail ha)) (by simp [ftPs]) (by simp) (HG.out.below (hbx.trans (hb.mono hbx.size)))
              have HP := Lib.hid hP
              have HP3 := Lib.hid hP3
              have HBX := Lib.hid hbx
              clear hacts hok hP ht hP3 hbx HKW HIK HBW hk6
              go_wp2_with (fail)
              refine (HP.out _ (Below.refl _ _) _).mono ?_
              rintro e X1 ⟨rfl, hb1⟩
              have HB1 := Lib.hid hb1
              clear hb1
              go_wp2_with (fail)
              refine (HP.out _ HB1.out _).mono ?_
              rintro e X2 ⟨rfl, hb2⟩
              have HB2 := Lib.hid (HB1.out.trans (hb2.mono HB1.out.size))
              clear hb2 HB1
              go_wp2_with (fail)
              refine (HP3.out _ HB2.out _).mono ?_
              rintro e X3 ⟨rfl, hb3⟩
              have HB3 := Lib.hid (HBX.out.trans ((HB2.out.trans (hb3.mono HB2.out.size)).mono HBX.out.size))
              clear hb3 HB2 HP HP3 HBX
              go_wp2
              go_roundw
              case rel => exact ⟨k + 1, by go_num, by omega, HB3.out⟩
              case measure => simp [intOf]; omega
        · have ikk : ¬ (k : Int) < 16 := by omega
          have HB := Lib.hid hbel.out
          clear hbel
          go_wp2
          go_roundw
          case rel => exact ⟨n + 1, by go_num, by omega, by omega, HB.out⟩
          case measure => simp [intOf]; omega
    · have ik : ¬ (n : Int) < 8 := by omega
      go_wp2
      go_ret
      exact ⟨rfl, hbel.out⟩
end Go.Proofs.YtfgpigblnkanpaaGreatDoor
