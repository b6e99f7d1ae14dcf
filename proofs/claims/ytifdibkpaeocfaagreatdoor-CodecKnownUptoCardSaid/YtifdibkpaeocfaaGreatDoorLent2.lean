/- LentPairs answers pairs with marks behind them; KeptPairs sees that they are as they were. -/
import Derived.Test.YtifdibkpaeocfaaGreatDoorLent
import Derived.Deep.RegionHeld3
namespace Go.Proofs.YtifdibkpaeocfaaGreatDoor
open Go.RowKit

/-- A slice of pairs, marks behind it. -/
def Lent (w : World) (B : Nat) (v : Value) (l : List PairL) : Prop :=
  ∃ g cap, v = .slice (some ⟨g, 0, none⟩) l.length cap ∧ B ≤ g ∧ l.length + 16 ≤ cap ∧ cap ≤ maxLen ∧ PairsAt w (.slice (some ⟨g, 0, none⟩) (l.length + 16) cap) (l ++ marksP 90 16)
theorem Lent.pairs {w : World} {B : Nat} {v : Value} {l : List PairL} (h : Lent w B v l) : PairsAt w v l := by
  obtain ⟨g, cap, rfl, _, _, _, a, cap', hv, hc⟩ := h
  simp only [Value.slice.injEq] at hv
  obtain ⟨rfl, _, rfl⟩ := hv
  refine ⟨_, cap, rfl, fun i p hp => ?_⟩
  obtain ⟨hi, _⟩ := List.getElem?_eq_some_iff.1 hp
  exact hc i p (by rw [List.getElem?_append_left hi]; exact hp)
theorem Lent.below {w w' : World} {B : Nat} {v : Value} {l : List PairL} (h : Lent w B v l) (hb : Below w.heap.size w w') : Lent w' B v l := by
  obtain ⟨g, cap, hv, h1, h2, h3, h4⟩ := h
  exact ⟨g, cap, hv, h1, h2, h3, h4.below hb⟩

set_option maxRecDepth 100000 in
theorem LentPairs_any (l : List PairL) (v : Value) (w : World) (hl : PairsAt w v l) (hn : l.length ≤ 65536) : Calls Tryz.prog 77 #[v] w fun e w' => ∃ u, e = .returned u ∧ Lent w' w.heap.size u l ∧ Below w.heap.size w w' := by
  obtain ⟨a, cap, hv⟩ := PairsAt.size hl
  have HL := Lib.hid hl
  clear hl
  subst hv
  go_enter Tryz.func77, Tryz.ntmps77
  go_wp2_with (fail)
  refine (FullPairs_any l _ _ HL.out hn).mono ?_
  rintro e w1 ⟨u, rfl, hown, hb1⟩
  have hlen : (l ++ marksP 90 16).length = l.length + 16 := by simp [marksP]
  have hat := PairsAt.own (l := l ++ marksP 90 16) (by rw [hlen]; exact hown)
  rcases hown.2 with ⟨_, h0⟩ | ⟨g, cap2, cur, hv, hge, _, hcap, hmax, _, _⟩
  · omega
  · subst hv
    rw [show (l ++ marksP 90 16) = l ++ marksP 90 16 from rfl] at hat
    have HA := Lib.hid hat
    have HM := Lib.hid hmax
    clear hat hown hmax hlen
    have h1 : (0 : Int) ≤ (l.length : Int) := by omega
    have h2 : (l.length : Int) ≤ cap2 := by omega
    have h3 : ((l.length : Int)).toNat = l.length := by omega
    go_wp2
    go_ret
    exact ⟨_, rfl, ⟨g, cap2, rfl, hge, hcap, HM.out, HA.out⟩, hb1⟩

set_option maxHeartbeats 1000000 in
set_option maxRecDepth 100000 in
theorem KeptFullPairs_any (l : List PairL) (u v : Value) (w : World) (hu : PairsAt w u (l ++ marksP 90 16)) (hl : PairsAt w v l) (hn : l.length ≤ 65536) : Calls Tryz.prog 114 #[u, v] w fun e w' => e = .returned (.bool true) ∧ Below w.heap.size w w' := by
  have hlen : (l ++ marksP 90 16).length = l.length + 16 := by simp [marksP]
  have hget : ∀ i p q, (l ++ marksP 90 16)[i]? = some p → (i < l.length → l[i]? = some q → q = p) ∧ (l.length ≤ i → p = markP 90 ((i : Int) - l.length)) := by
    intro i p q hp
    refine ⟨fun hi hq => ?_, fun hi => ?_⟩
    · rw [List.getElem?_append_left hi, hq] at hp
      simpa using hp
    · rw [List.getElem?_append_right hi] at hp
      have hi2 : i - l.length < 16 := by
        obtain ⟨h, _⟩ := List.getElem?_eq_some_iff.1 hp
        simpa [marksP] using h
      have e : ((i : Int) - l.length) = ((i - l.length : Nat) : Int) := by omega
      rw [e]
      simp only [marksP, List.getElem?_map, List.getElem?_range hi2, Option.map_some, Option.some.injEq] at hp
      exact hp.symm
  have HG := Lib.hid hget
  clear hget
  obtain ⟨au, cu, rfl, hcu⟩ := hu
  obtain ⟨av, cv, rfl, hcv⟩ := hl
  rw [hlen]
  have HU := Lib.hid hcu
  have HV := Lib.hid hcv
  have HLEN := Lib.hid hlen
  clear hcu hcv hlen
  go_enter Tryz.func114, Tryz.ntmps114
  go_wp2
  go_loopw [5] (fun i wr => ∃ k : Nat, i = .int .i64 k ∧ k ≤ l.length + 16 ∧ Below w.heap.size w wr) (fun i _ => l.length + 16 - (intOf i).toNat)
  case atStart => exact ⟨0, rfl, by omega, Below.refl _ _⟩
  case round =>
    obtain ⟨k, rfl, hk, hbel⟩ := hrel
    by_cases hlt : k < l.length + 16
    · obtain ⟨p, hp⟩ : ∃ p, (l ++ marksP 90 16)[k]? = some p := ⟨_, List.getElem?_eq_getElem (by rw [HLEN.out]; exact hlt)⟩
      obtain ⟨b, off, rfl, h1, h2⟩ := HU.out k p hp
      have hbl : b < w.heap.size := World.block_lt_of_cell? w _ h1
      have hbs := hbel.size
      have hw0 : IntKind.i64.wrap ((k : Int) - l.length) = (k : Int) - l.length := IntWalk.i64_in _ (by omega)
      obtain ⟨d, hd⟩ : ∃ d : Int, (k : Int) - l.length = d := ⟨_, rfl⟩
      have hB0 := hbel.alloc hbs (.cells #[strV [], strV []] 33)
      by_cases hkl : k < l.length
      · obtain ⟨q, hq⟩ : ∃ q, l[k]? = some q := ⟨_, List.getElem?_eq_getElem hkl⟩
        obtain rfl := (HG.out k p q hp).1 hkl hq
        obtain ⟨b', off', rfl, g1, g2⟩ := HV.out k q hq
        have hbl' : b' < w.heap.size := World.block_lt_of_cell? w _ g1
        generalize hk1 : q.1 = pk at *
        generalize hk2 : q.2 = pv at *
        have HK1 := Lib.hid hk1
        have HK2 := Lib.hid hk2
        have HP := Lib.hid hp
        have HQ := Lib.hid hq
        clear hk1 hk2 hp hq
        go_wp2_with (fail)
        refine (markPairs_any 90 _ _).mono ?_
        rintro e w2 ⟨rfl, hb2⟩
        have hB2 := hbel.trans (hb2.mono hbel.size)
        have hbs2 := hB2.size
        have hz := Blk.new w2 [strV (markT 90 d), strV markW] 33
        have hB3 := hB2.alloc hbs2 (.cells #[strV (markT 90 d), strV markW] 33)
        replace g1 := (hB3.cell (p := ⟨b', off' + k * 2, none⟩) hbl').trans g1
        replace g2 := (hB3.cell (p := ⟨b', off' + k * 2 + 1, none⟩) hbl').trans g2
        have f0 := hz.free 0
        have f1 := hz.free 1
        have c0 := hz.cell 0
        have c1 := hz.cell 1
        simp only [List.getElem?_cons_zero, List.getElem?_cons_succ] at c0 c1
        have hz4 := Blk.new w2 [strV pk, strV pv] 33
        have hB4 := hB2.alloc hbs2 (.cells #[strV pk, strV pv] 33)
        go_wp2_with (fail)
        generalize w2.alloc (.cells #[strV pk, strV pv] 33) = w4 at *
        have d0 := hz4.cell 0
        have d1 := hz4.cell 1
        simp only [List.getElem?_cons_zero, List.getElem?_cons_succ] at d0 d1
        replace h1 := (hB4.cell (p := ⟨b, off + k * 2, none⟩) hbl).trans h1
        replace h2 := (hB4.cell (p := ⟨b, off + k * 2 + 1, none⟩) hbl).trans h2
        have hne := fun w' => neq_pair pk pv pk pv w'
        simp only [decide_true, Bool.not_true] at hne
        have a3 : (0 : Int) ≤ k := by omega
        have a4 : (k : Int) < l.length + 16 := by omega
        clear hz g1 g2 f0 f1 c0 c1
        go_quiet (fail)
        go_wp2
        go_roundw
        case rel => exact ⟨k + 1, by go_num, by omega, below_drewN hB4 _⟩
        case measure => simp [intOf]; omega
      · obtain rfl := (HG.out k p p hp).2 (by omega)
        simp only [markP] at h1 h2
        rw [hd] at h1
        have HP := Lib.hid hp
        clear hp
        go_wp2_with (fail)
        refine (markPairs_any 90 _ _).mono ?_
        rintro e w2 ⟨rfl, hb2⟩
        have hB2 := hbel.trans (hb2.mono hbel.size)
        have hbs2 := hB2.size
        have hz := Blk.new w2 [strV (markT 90 d), strV markW] 33
        have hB3 := hB2.alloc hbs2 (.cells #[strV (markT 90 d), strV markW] 33)
        replace h1 := (hB3.cell (p := ⟨b, off + k * 2, none⟩) hbl).trans h1
        replace h2 := (hB3.cell (p := ⟨b, off + k * 2 + 1, none⟩) hbl).trans h2
        have c0 := hz.cell 0
        have c1 := hz.cell 1
        simp only [List.getElem?_cons_zero, List.getElem?_cons_succ] at c0 c1
        go_wp2_with (fail)
        generalize (w2.alloc (.cells #[strV (markT 90 d), strV markW] 33)) = w4 at *
        have hne := fun w' => neq_pair (markT 90 d) markW (markT 90 d) markW w'
        simp only [decide_true, Bool.not_true] at hne
        have a3 : (0 : Int) ≤ k := by omega
        have a4 : (k : Int) < l.length + 16 := by omega
        clear hz
        generalize markT 90 d = mt at *
        go_quiet (fail)
        go_wp2
        go_roundw
        case rel => exact ⟨k + 1, by go_num, by omega, below_drewN hB3 _⟩
        case measure => simp [intOf]; omega
    · go_wp2
      go_ret
      exact ⟨rfl, hbel⟩

set_option maxRecDepth 100000 in
theorem KeptPairs_any (l : List PairL) (B : Nat) (u v : Value) (w : World) (hu : Lent w B u l) (hl : PairsAt w v l) (hn : l.length ≤ 65536) : Calls Tryz.prog 78 #[u, v] w fun e w' => e = .returned (.bool true) ∧ Below w.heap.size w w' := by
  obtain ⟨a, cap, hv⟩ := PairsAt.size hl
  obtain ⟨g, cap2, rfl, _, hcap, _, hat⟩ := hu
  have HA := Lib.hid hat
  have HL := Lib.hid hl
  clear hat hl
  subst hv
  have h1 : (0 : Int) ≤ (l.length : Int) + 16 := by omega
  have h2 : (l.length : Int) + 16 ≤ cap2 := by omega
  have h3 : ((l.length : Int) + 16).toNat = l.length + 16 := by omega
  go_enter Tryz.func78, Tryz.ntmps78
  go_wp2_with (fail)
  refine (KeptFullPairs_any l _ _ _ HA.out HL.out hn).mono ?_
  rintro e w1 ⟨rfl, hb1⟩
  go_wp2
  go_ret
  exact ⟨rfl, hb1⟩
end Go.Proofs.YtifdibkpaeocfaaGreatDoor
