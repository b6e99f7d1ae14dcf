/- The walks of the statements' small helpers, over this translation. -/
import Derived.Test.YtifdibkpaeocfaaGreatDoorUnpack2
import Derived.LaidEql
import Derived.Stop.Asserts
import Derived.Lib.IfaceEq
import Derived.RowKitTokens
namespace Go.Proofs.YtifdibkpaeocfaaGreatDoor
open Go.RowKit

set_option maxRecDepth 100000 in
theorem Head_any (l : List UInt8) (n : Nat) (w : World) (hn : 1 ≤ n) : Calls Tryz.prog 71 #[.string (str l), .int .i64 n] w fun e w' => e = .returned (strV (l.take n)) ∧ Below w.heap.size w w' := by
  have e1 := str_size l
  by_cases h : l.length ≤ n
  · have ht : l.take n = l := List.take_of_length_le h
    rw [ht]
    go_enter Tryz.func71, Tryz.ntmps71
    go_wp2
    go_ret
    exact ⟨rfl, Below.refl _ _⟩
  · have hx : (str l).extract 0 n = str (l.take n) := by rw [str_extract]; simp
    go_enter Tryz.func71, Tryz.ntmps71
    go_wp2
    go_ret
    exact ⟨rfl, Below.refl _ _⟩
set_option maxRecDepth 100000 in
theorem Pick_any (k : Int) (n : Nat) (w : World) (hn : 1 ≤ n) (hs : n ≤ 140737488351232) : Calls Tryz.prog 81 #[.int .i64 k, .int .i64 n] w fun e w' => e = .returned (.int .i64 (k % n)) ∧ w = w' := by
  have hb1 : -(n : Int) < k.tmod n := by have := Int.lt_tmod_of_pos k (b := n) (by omega); omega
  have hb2 : k.tmod n < n := Int.tmod_lt_of_pos k (by omega)
  have he : k % n = if k.tmod n < 0 then k.tmod n + n else k.tmod n := by
    have h1 := Int.tmod_eq_emod (a := k) (b := n)
    rw [Int.natAbs_natCast] at h1
    have h2 := Int.emod_nonneg k (b := n) (by omega)
    have h3 := Int.emod_lt_of_pos k (b := n) (by omega)
    split
    · rename_i h
      split at h1 <;> omega
    · rename_i h
      split at h1 <;> omega
  have HE := Lib.hid he
  clear he
  by_cases h : k.tmod n < 0
  · go_enter Tryz.func81, Tryz.ntmps81
    go_wp2
    go_ret
    exact ⟨congrArg Ending.returned (int_eq (by rw [HE.out, if_pos h])), rfl⟩
  · go_enter Tryz.func81, Tryz.ntmps81
    go_wp2
    go_ret
    exact ⟨congrArg Ending.returned (int_eq (by rw [HE.out, if_neg (by omega)])), rfl⟩
theorem PairsAt.own {w : World} {base : Nat} {v : Value} {l : List PairL} (h : w.ownsRow base 33 2 v l.length (cellsP l)) : PairsAt w v l := by
  have key : ∀ (l : List PairL) i p, l[i]? = some p → (cellsP l)[i * 2]? = some (strV p.1) ∧ (cellsP l)[i * 2 + 1]? = some (strV p.2) := by
    intro l
    induction l with
    | nil => intro i p hp; simp at hp
    | cons q l ih =>
      intro i p hp
      cases i with
      | zero => simp at hp; subst hp; exact ⟨rfl, rfl⟩
      | succ i =>
        have := ih i p (by simpa using hp)
        have e1 : (i + 1) * 2 = i * 2 + 1 + 1 := by omega
        rw [e1]
        exact this
  rcases h.2 with ⟨hv, h0⟩ | ⟨g, cap, cur, hv, _, hg, _, _, _, ht⟩
  · refine ⟨none, 0, by rw [hv, h0], fun i p hp => ?_⟩
    rw [List.length_eq_zero_iff.1 h0] at hp; simp at hp
  · refine ⟨some ⟨g, 0, none⟩, cap, hv, fun i p hp => ⟨g, 0, rfl, ?_⟩⟩
    obtain ⟨k1, k2⟩ := key l i p hp
    obtain ⟨hil, _⟩ := List.getElem?_eq_some_iff.1 hp
    have hcell : ∀ j, j < l.length * 2 → w.cell? ⟨g, j, none⟩ = (cellsP l)[j]? := by
      intro j hj
      rw [← ht, List.getElem?_take, if_pos hj]
      simp [World.cell?, hg]
    exact ⟨by rw [Nat.zero_add, hcell _ (by omega), k1], by rw [Nat.zero_add, hcell _ (by omega), k2]⟩

theorem stoodPair : Tryz.prog.stoodInHeld 33 = false := by kernel_rfl
theorem neq_pair (a b c d : List UInt8) (w : World) : (binOp .neq 33 (.agg #[strV a, strV b]) (.agg #[strV c, strV d])).run Tryz.prog w = .ok (.bool (!decide (((a, b) : PairL) = (c, d)))) w := by
  have hp := stoodPair
  have h1 : ((str a).toList == (str c).toList) = decide (a = c) := by rw [toList_str, toList_str]; by_cases h : a = c <;> simp [h]
  have h2 : ((str b).toList == (str d).toList) = decide (b = d) := by rw [toList_str, toList_str]; by_cases h : b = d <;> simp [h]
  go_simp
  by_cases h3 : a = c <;> by_cases h4 : b = d <;> simp [h3, h4]
theorem PairsAt.size {w : World} {v : Value} {l : List PairL} (h : PairsAt w v l) : ∃ a cap, v = .slice a l.length cap := by
  obtain ⟨a, cap, hv, _⟩ := h
  exact ⟨a, cap, hv⟩

set_option maxHeartbeats 1000000 in
set_option maxRecDepth 100000 in
theorem SamePairs_any (la lb : List PairL) (va vb : Value) (w : World) (ha : PairsAt w va la) (hb : PairsAt w vb lb) (hla : la.length ≤ 140737488351232) : Calls Tryz.prog 17 #[va, vb] w fun e w' => e = .returned (.bool (decide (la = lb))) ∧ Below w.heap.size w w' := by
  obtain ⟨aa, ca, rfl, hca⟩ := ha
  obtain ⟨ab, cb, rfl, hcb⟩ := hb
  have HA := Lib.hid hca
  have HB := Lib.hid hcb
  clear hca hcb
  by_cases hl : la.length = lb.length
  · have hq : ((la.length : Int) != lb.length) = false := by rw [hl]; simp
    have HL := Lib.hid hl
    clear hl
    go_enter Tryz.func17, Tryz.ntmps17
    go_wp2
    go_loopw [5] (fun i wr => ∃ k : Nat, i = .int .i64 k ∧ k ≤ la.length ∧ Hid (∀ j, j < k → la[j]? = lb[j]?) ∧ Below w.heap.size w wr) (fun i _ => la.length - (intOf i).toNat)
    case atStart => exact ⟨0, rfl, by omega, fun j hj => by omega, Below.refl _ _⟩
    case round =>
      obtain ⟨k, rfl, hk, hsame, hbel⟩ := hrel
      by_cases hlt : k < la.length
      · have hltb : k < lb.length := by rw [← HL.out]; exact hlt
        obtain ⟨p, hp⟩ : ∃ p, la[k]? = some p := ⟨_, List.getElem?_eq_getElem hlt⟩
        obtain ⟨q, hq⟩ : ∃ q, lb[k]? = some q := ⟨_, List.getElem?_eq_getElem hltb⟩
        obtain ⟨b1, o1, rfl, h1, h2⟩ := HA.out k p hp
        obtain ⟨b2, o2, rfl, h3, h4⟩ := HB.out k q hq
        have hb1 : b1 < w.heap.size := World.block_lt_of_cell? w _ h1
        have hb2 : b2 < w.heap.size := World.block_lt_of_cell? w _ h3
        replace h1 := (hbel.cell (p := ⟨b1, o1 + k * 2, none⟩) hb1).trans h1
        replace h2 := (hbel.cell (p := ⟨b1, o1 + k * 2 + 1, none⟩) hb1).trans h2
        replace h3 := (hbel.cell (p := ⟨b2, o2 + k * 2, none⟩) hb2).trans h3
        replace h4 := (hbel.cell (p := ⟨b2, o2 + k * 2 + 1, none⟩) hb2).trans h4
        have HP := Lib.hid hp
        have HQ := Lib.hid hq
        clear hp hq
        obtain ⟨pk, pv⟩ := p
        obtain ⟨qk, qv⟩ := q
        have hix0 : (0 : Int) ≤ (k : Int) := by omega
        have hix1 : (k : Int) < la.length := by omega
        have hix2 : (k : Int) < lb.length := by omega
        have hne := neq_pair pk pv qk qv
        by_cases heq : ((pk, pv) : PairL) = (qk, qv)
        · rw [decide_eq_true heq] at hne
          have HE := Lib.hid heq
          clear heq
          go_wp2
          go_quiet (fail)
          go_wp2
          go_roundw
          case rel => exact ⟨k + 1, by go_num, by omega, fun j hj => by
            by_cases e : j = k
            · subst e; rw [HP.out, HQ.out, HE.out]
            · exact hsame.out j (by omega), below_drewN hbel _⟩
          case measure => simp [intOf]; omega
        · rw [decide_eq_false heq] at hne
          have HE := Lib.hid heq
          have hd : decide (la = lb) = false := by
            rw [decide_eq_false_iff_not]; intro e
            have h1 := HP.out
            rw [e, HQ.out] at h1
            exact heq (Option.some.inj h1).symm
          have HD := Lib.hid hd
          clear heq hd
          go_wp2
          go_quiet (fail)
          go_wp2
          go_ret
          exact ⟨by rw [HD.out]; rfl, below_drewN hbel _⟩
      · have hd : decide (la = lb) = true := by
          rw [decide_eq_true_eq]
          apply List.ext_getElem?
          intro j
          by_cases hj : j < k
          · exact hsame.out j hj
          · have := HL.out
            rw [List.getElem?_eq_none (by omega), List.getElem?_eq_none (by omega)]
        have HD := Lib.hid hd
        clear hd
        go_wp2
        go_ret
        exact ⟨by rw [HD.out]; rfl, hbel⟩
  · have hq : ((la.length : Int) != lb.length) = true := by rw [bne_iff_ne]; omega
    have hd : decide (la = lb) = false := by
      rw [decide_eq_false_iff_not]; intro e; exact hl (by rw [e])
    have HD := Lib.hid hd
    have HL := Lib.hid hl
    clear hl hd
    go_enter Tryz.func17, Tryz.ntmps17
    go_wp2
    go_ret
    exact ⟨by rw [HD.out]; rfl, Below.refl _ _⟩
end Go.Proofs.YtifdibkpaeocfaaGreatDoor
