/- The walk of odd: a closed helper of the statement JournalKnown. -/
import Derived.Test.YtfgpigblnkanpaaGreatDoorTe
import Derived.StillTailTactics
import Derived.Deep.RegionWith
namespace Go.Proofs.YtfgpigblnkanpaaGreatDoor
open Go.RowKit Go.Maps Go.Shelf
set_option linter.unusedVariables false
set_option linter.unusedSimpArgs false

def odPs (T : Nm) : List (Ac × Value) :=
  [(⟨7, T, 0, []⟩, .slice none 0 0), (⟨6, [], 0, []⟩, .slice none 0 0), (⟨0, [122], 0, []⟩, .slice none 0 0), (⟨6, [], 0, []⟩, .slice none 0 0), (⟨2, [], 0, []⟩, .slice none 0 0), (⟨6, [], 0, []⟩, .slice none 0 0)]
theorem od_ok {T : Nm} (hT : T.length ≤ 1000) : ∀ a ∈ (odPs T).map (·.1), AcOk a := by
  have hw0 : wf64 [] := fun x hx => by cases hx
  intro a ha
  unfold odPs at ha
  simp only [List.map_cons, List.map_nil, List.mem_cons, List.not_mem_nil, or_false] at ha
  rcases ha with rfl | rfl | rfl | rfl | rfl | rfl <;>
    (refine ⟨?_, ?_, ?_, ?_, ?_⟩ <;> first | assumption | (simp; done) | (simp only []; omega) | omega)
theorem od_kv {W : World} {T : Nm} : ∀ p ∈ odPs T, ∃ ka kn kc, p.2 = .slice ka kn kc ∧ IntsAt W (.slice ka kn kc) p.1.keep := by
  have h0 : IntsAt W (.slice none 0 0) [] := Or.inl ⟨rfl, none, 0, rfl⟩
  intro p hp
  unfold odPs at hp
  simp only [List.mem_cons, List.not_mem_nil, or_false] at hp
  rcases hp with rfl | rfl | rfl | rfl | rfl | rfl <;> exact ⟨_, _, _, rfl, h0⟩
set_option maxRecDepth 100000 in
theorem od_acts (W : World) (T : Nm) : ActsAt (W.alloc (.cells ((odPs T).map fun p => p.1.cells p.2).flatten.toArray 81)) (.slice (some ⟨W.heap.size, 0, none⟩) 6 6) ((odPs T).map (·.1)) :=
  ActsAt.lit (odPs T) (Blk.new W _ _) od_kv
theorem RowAt.getT {w : World} {b n c : Nat} {L : List Nm} (h : TextsAt w (.slice (some ⟨b, 0, none⟩) n c) L) {i : Nat} {x : Nm} (hi : L[i]? = some x) : w.cell? ⟨b, i, none⟩ = some (strV x) := by
  obtain ⟨a, c', e, hc⟩ := RowAt.shape h
  simp only [Value.slice.injEq] at e
  obtain ⟨rfl, -, -⟩ := e
  obtain ⟨b', off, e2, h3, -⟩ := hc i (strV x) (by rw [List.getElem?_map, hi]; rfl)
  simp only [Option.some.injEq, Addr.mk.injEq, and_true] at e2
  obtain ⟨rfl, rfl⟩ := e2
  rw [Nat.zero_add] at h3
  exact h3
set_option maxHeartbeats 8000000 in
set_option maxRecDepth 100000 in
theorem odd_any (w : World) (hg : ErrorLaid w) : Calls Tryz.prog 42 #[] w fun e w' => e = .returned (.bool true) ∧ Below w.heap.size w w' := by
  have HG := Lib.hid hg
  clear hg
  have h0 : (jframe []).length = 5 := by kernel_rfl
  have h2 : (jframe [97, 98]).length = 7 := by kernel_rfl
  have hx : (jframe [120]).length = 6 := by kernel_rfl
  have ha : (jframe [97]).length = 6 := by kernel_rfl
  have hQ : (timesL 113 200).length = 200 := by unfold timesL; rw [List.length_replicate]
  have hq := jframe_le (timesL 113 200) (by omega)
  have hU := uintL_len (n := 9223372036854775808) (by omega)
  have hV := uintL_len (n := 33554432) (by omega)
  have c0 : ∀ W, Calls Tryz.prog 98 #[.string { data := #[] }] W fun e w' => e = .returned (strV (jframe [])) ∧ Below W.heap.size W w' := fun W => lframe_any [] W (by simp)
  have c2 : ∀ W, Calls Tryz.prog 98 #[.string { data := #[97, 98] }] W fun e w' => e = .returned (strV (jframe [97, 98])) ∧ Below W.heap.size W w' := fun W => lframe_any [97, 98] W (by simp)
  have cx : ∀ W, Calls Tryz.prog 98 #[.string { data := #[120] }] W fun e w' => e = .returned (strV (jframe [120])) ∧ Below W.heap.size W w' := fun W => lframe_any [120] W (by simp)
  have ca : ∀ W, Calls Tryz.prog 98 #[.string { data := #[97] }] W fun e w' => e = .returned (strV (jframe [97])) ∧ Below W.heap.size W w' := fun W => lframe_any [97] W (by simp)
  have cq := fun W => lframe_any (timesL 113 200) W (by omega)
  have ct : ∀ W, Calls Tryz.prog 99 #[.string { data := #[113] }, .int .i64 200] W fun e w' => e = .returned (strV (timesL 113 200)) ∧ Below W.heap.size W w' := fun W => times_any W 113 200 (by omega) (by omega)
  have cu : ∀ W, Calls Tryz.prog 102 #[.int .u64 9223372036854775808] W fun e w' => e = .returned (strV (uintL 9223372036854775808)) ∧ Below W.heap.size W w' := fun W => Uint_any 9223372036854775808 W (by show _ < _; omega)
  have cv : ∀ W, Calls Tryz.prog 102 #[.int .u64 33554432] W fun e w' => e = .returned (strV (uintL 33554432)) ∧ Below W.heap.size W w' := fun W => Uint_any 33554432 W (by show _ < _; omega)
  generalize jframe [] = f0 at *
  generalize jframe [97, 98] = f2 at *
  generalize jframe [120] = fx at *
  generalize jframe [97] = fa at *
  generalize jframe (timesL 113 200) = fq at *
  generalize timesL 113 200 = Q at *
  generalize uintL 9223372036854775808 = U at *
  generalize uintL 33554432 = V at *
  rw [hQ] at hq
  have s0 : (str f0).size = 5 := by rw [str_size, h0]
  have s2 : (str f2).size = 7 := by rw [str_size, h2]
  have sx : (str fx).size = 6 := by rw [str_size, hx]
  have sa : (str fa).size = 6 := by rw [str_size, ha]
  have sU := str_size U
  have nU : ¬ (9223372036854775807 : Int) < (U.length : Int) + 4 := by omega
  have eU : ({ data := #[97, 98, 99, 100] } : ByteArray) = str [97, 98, 99, 100] := rfl
  have aU := str_append U [97, 98, 99, 100]
  have s4 := str_size [97, 98, 99, 100]
  have e0 : ({ data := #[0] } : ByteArray) = str [0] := rfl
  have a0 := str_append f0 [0]
  have t0 := str_size [0]
  have d2 : (str f2).extract 1 7 = str (f2.drop 1) := by rw [str_extract, List.take_of_length_le (by omega)]
  have td2 : (str (f2.drop 1)).size = 6 := by rw [str_size, List.length_drop, h2]
  have a2 := str_append f2 (f2.drop 1)
  have d0 : (str f0).extract 1 5 = str (f0.drop 1) := by rw [str_extract, List.take_of_length_le (by omega)]
  have td0 : (str (f0.drop 1)).size = 4 := by rw [str_size, List.length_drop, h0]
  have e1 : ({ data := #[129, 0] } : ByteArray) = str [129, 0] := rfl
  have a1 := str_append [129, 0] (f0.drop 1)
  have t1 := str_size [129, 0]
  have dx : (str fx).extract 0 4 = str (fx.take 4) := by rw [str_extract]; simp
  have da : (str fa).extract 0 5 = str (fa.take 5) := by rw [str_extract]; simp
  have tda : (str (fa.take 5)).size = 5 := by rw [str_size, List.length_take, ha]; rfl
  have e98 : ({ data := #[98] } : ByteArray) = str [98] := rfl
  have a98 := str_append (fa.take 5) [98]
  have t98 := str_size [98]
  have l2 : (f2.drop 1).length = 6 := by rw [List.length_drop, h2]
  have l0 : (f0.drop 1).length = 4 := by rw [List.length_drop, h0]
  have lx : (fx.take 4).length = 4 := by rw [List.length_take, hx]; rfl
  have la : (fa.take 5).length = 5 := by rw [List.length_take, ha]; rfl
  generalize f2.drop 1 = g2 at *
  generalize f0.drop 1 = g0 at *
  generalize fx.take 4 = gx at *
  generalize fa.take 5 = ga at *
  have HLEN : Hid (∀ x ∈ ([[0], [1], [1, 97, 98, 99, 100], f0, f0 ++ [0], f2 ++ g2, 129 :: 0 :: g0, U ++ [97, 98, 99, 100], V, gx, [128, 128, 128, 128, 128, 128, 128, 128, 128, 128, 128], fq, ga ++ [98]] : List Nm), x.length ≤ 300) := by
    show ∀ x ∈ _, _
    intro x hx2
    simp only [List.mem_cons, List.not_mem_nil, or_false] at hx2
    rcases hx2 with rfl | rfl | rfl | rfl | rfl | rfl | rfl | rfl | rfl | rfl | rfl | rfl | rfl <;> try simp only [List.length_append, List.length_cons, List.length_nil, List.length_drop, List.length_take]
    all_goals omega
  have C0 := Lib.hid c0
  have C2 := Lib.hid c2
  have CX := Lib.hid cx
  have CA := Lib.hid ca
  have CQ := Lib.hid cq
  have CT := Lib.hid ct
  have CU := Lib.hid cu
  have CV := Lib.hid cv
  clear c0 c2 cx ca cq ct cu cv hU hV hq hQ l2 l0 lx la h0 h2 hx ha
  go_enter Tryz.func42, Tryz.ntmps42
  go_wp2_with (fail)
  refine (CU.out _).mono ?_
  rintro e w1 ⟨rfl, hb1⟩
  have HB1 := Lib.hid hb1
  clear hb1
  go_wp2_with (fail)
  refine (CV.out _).mono ?_
  rintro e w2 ⟨rfl, hb2⟩
  have HB2 := Lib.hid (HB1.out.trans (hb2.mono HB1.out.size))
  clear hb2 HB1 CU CV
  go_upto_region 3 with (fail)
  go_cut [3] (fun s3 wx => ∃ (b : Nat) (L : List Nm), s3 = .slice (some ⟨b, 0, none⟩) 13 13 ∧ Hid (Below w.heap.size w wx ∧ TextsAt wx (.slice (some ⟨b, 0, none⟩) 13 13) L ∧ L.length = 13 ∧ ∀ x ∈ L, x.length ≤ 300))
  case first =>
    have HB : Hid (Below w.heap.size w w2.drew) := HB2.out.trans (((Below.refl _ w2).drew).mono HB2.out.size)
    clear HB2
    go_region_with (first
      | (go_at_call 99; with_reducible refine (CT.out _).mono ?_; rintro e wn ⟨rfl, hb⟩; replace HB := Lib.hid (HB.out.trans (hb.mono HB.out.size)); clear hb)
      | (go_at_call 98; with_reducible refine (C0.out _).mono ?_; rintro e wn ⟨rfl, hb⟩; replace HB := Lib.hid (HB.out.trans (hb.mono HB.out.size)); clear hb)
      | (go_at_call 98; with_reducible refine (C2.out _).mono ?_; rintro e wn ⟨rfl, hb⟩; replace HB := Lib.hid (HB.out.trans (hb.mono HB.out.size)); clear hb)
      | (go_at_call 98; with_reducible refine (CX.out _).mono ?_; rintro e wn ⟨rfl, hb⟩; replace HB := Lib.hid (HB.out.trans (hb.mono HB.out.size)); clear hb)
      | (go_at_call 98; with_reducible refine (CA.out _).mono ?_; rintro e wn ⟨rfl, hb⟩; replace HB := Lib.hid (HB.out.trans (hb.mono HB.out.size)); clear hb)
      | (go_at_call 98; with_reducible refine (CQ.out _).mono ?_; rintro e wn ⟨rfl, hb⟩; replace HB := Lib.hid (HB.out.trans (hb.mono HB.out.size)); clear hb))
    all_goals
      go_wp2_with (fail)
      go_meet
      exact ⟨wn.heap.size, [[0], [1], [1, 97, 98, 99, 100], f0, f0 ++ [0], f2 ++ g2, 129 :: 0 :: g0, U ++ [97, 98, 99, 100], V, gx, [128, 128, 128, 128, 128, 128, 128, 128, 128, 128, 128], fq, ga ++ [98]], rfl, HB.out.trans (((Below.refl _ wn).alloc (Nat.le_refl _) _).mono HB.out.size), TextsAt.lit wn [[0], [1], [1, 97, 98, 99, 100], f0, f0 ++ [0], f2 ++ g2, 129 :: 0 :: g0, U ++ [97, 98, 99, 100], V, gx, [128, 128, 128, 128, 128, 128, 128, 128, 128, 128, 128], fq, ga ++ [98]] (by simp), rfl, HLEN.out⟩
  case rest =>
    obtain ⟨b, L, rfl, hq⟩ := hcut
    obtain ⟨hbx, htx, hL13, hL300⟩ := hq.out
    clear hq
    generalize wc = X at *
    have HBX := Lib.hid hbx
    have HTX := Lib.hid htx
    have HL := Lib.hid hL300
    clear hbx htx hL300 HB2 C0 C2 CX CA CQ CT HLEN s0 s2 sx sa sU eU aU s4 e0 a0 t0 e1 t1 e98 t98 d2 td2 a2 d0 td0 a1 dx da tda a98 nU
    go_wp2_with (fail)
    go_loopw [4] (fun iv wr => ∃ i : Nat, iv = .int .i64 (i : Nat) ∧ i ≤ 13 ∧ Hid (Below X.heap.size X wr)) (fun iv _ => 14 - (intOf iv).toNat)
    case atStart => exact ⟨0, rfl, by omega, Below.refl _ _⟩
    case round =>
      obtain ⟨i, rfl, hi, hbel⟩ := hrel
      by_cases hil : i < 13
      · have ik : (i : Int) < 13 := by omega
        have ik0 : (0 : Int) ≤ (i : Int) := by omega
        go_wp2_with (fail)
        go_loopw [5] (fun iv wr => ∃ k : Nat, iv = .int .i64 (k : Nat) ∧ k ≤ 13 ∧ Hid (Below X.heap.size X wr)) (fun iv _ => 14 - (intOf iv).toNat)
        case atStart => exact ⟨0, rfl, by omega, hbel.out⟩
        case round =>
          clear hbel
          obtain ⟨k, rfl, hk, hbel⟩ := hrel
          by_cases hkl : k < 13
          · have jk : (k : Int) < 13 := by omega
            have jk0 : (0 : Int) ≤ (k : Int) := by omega
            obtain ⟨x, hx⟩ : ∃ x, L[i]? = some x := ⟨_, List.getElem?_eq_getElem (by omega)⟩
            obtain ⟨y, hy⟩ : ∃ y, L[k]? = some y := ⟨_, List.getElem?_eq_getElem (by omega)⟩
            have cx := (RowAt.below HTX.out hbel.out).getT hx
            have cy := (RowAt.below HTX.out hbel.out).getT hy
            have lx := HL.out x (List.mem_of_getElem? hx)
            have ly := HL.out y (List.mem_of_getElem? hy)
            have sx := str_size x
            have sy := str_size y
            have nxy : ¬ 9223372036854775807 < x.length + y.length := by omega
            have axy := str_append x y
            have LXY : Hid ((x ++ y).length ≤ 1000) := by show _ ≤ _; rw [List.length_append]; omega
            have HBW := Lib.hid hbel.out
            clear hx hy lx ly hbel
            go_upto_region 10 with (fail)
            refine wp_region_still_tail 15 (by kernel_rfl) (by kernel_rfl) ?_
            simp only [List.take_succ_cons, List.take_zero, List.drop_succ_cons, List.drop_zero]
            still_step
            still_step
            still_step
            still_step
            still_step
            still_step
            still_step
            still_step
            still_step
            still_step
            still_step
            still_step
            still_step
            still_step
            still_step
            refine wpStill_nil ?_
            go_wp2_with (fail)
            have hb1 : Below wr.heap.size wr (wr.alloc (.cells ((odPs (x ++ y)).map fun p => p.1.cells p.2).flatten.toArray 81)).drew := ((Below.refl _ wr).alloc (Nat.le_refl _) _).drew
            have hA := (od_acts wr (x ++ y)).below (Below.refl _ _).drew
            refine (JournalPlays_any (wr.alloc (.cells ((odPs (x ++ y)).map fun p => p.1.cells p.2).flatten.toArray 81)).drew 5000 [106] _ _ hA (od_ok LXY.out) (by simp [odPs]) (by simp) (HG.out.below (HBX.out.trans ((HBW.out.trans (hb1.mono HBW.out.size)).mono HBX.out.size)))).mono ?_
            rintro e w5 ⟨rfl, hb5⟩
            have HBN := Lib.hid (HBW.out.trans ((hb1.trans (hb5.mono hb1.size)).mono HBW.out.size))
            clear hb1 hA hb5 HBW cx cy sx sy nxy axy
            go_wp2
            go_roundw
            case rel => exact ⟨k + 1, by go_num, by omega, HBN.out⟩
            case measure => simp [intOf]; omega
          · have jk : ¬ (k : Int) < 13 := by omega
            have HB := Lib.hid hbel.out
            clear hbel
            go_wp2
            go_roundw
            case rel => exact ⟨i + 1, by go_num, by omega, HB.out⟩
            case measure => simp [intOf]; omega
      · have ik : ¬ (i : Int) < 13 := by omega
        have HB := Lib.hid (HBX.out.trans (hbel.out.mono HBX.out.size))
        clear hbel
        go_wp2
        go_ret
        exact ⟨rfl, HB.out⟩
end Go.Proofs.YtfgpigblnkanpaaGreatDoor
