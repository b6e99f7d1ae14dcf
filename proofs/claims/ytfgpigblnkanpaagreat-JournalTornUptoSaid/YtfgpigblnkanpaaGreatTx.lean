/- Texts that are read, an empty row anywhere; two rows held against each other. -/
import Derived.Test.YtfgpigblnkanpaaGreatLa
namespace Go.Proofs.YtfgpigblnkanpaaGreat
open Go.RowKit Go.Maps Go.Shelf
set_option linter.unusedVariables false

/-- A slice whose cells read as these texts. -/
def ShapeT (w : World) (v : Value) (l : List (List UInt8)) : Prop := ∃ a c, v = .slice a l.length c ∧ ∀ k x, l[k]? = some x → ∃ b off, a = some ⟨b, off, none⟩ ∧ w.cell? ⟨b, off + k, none⟩ = some (strV x)
theorem TextsAt.sh {w : World} {v : Value} {l : List (List UInt8)} (h : TextsAt w v l) : ShapeT w v l := by
  obtain ⟨a, c, rfl, h2⟩ := h.shape
  simp only [List.length_map] at *
  refine ⟨a, c, rfl, fun k x hx => ?_⟩
  obtain ⟨b, off, h3, h4, -⟩ := h2 k (strV x) (by rw [List.getElem?_map, hx]; rfl)
  exact ⟨b, off, h3, h4⟩
theorem ShapeT.below {w w' : World} {v : Value} {l : List (List UInt8)} (h : ShapeT w v l) (hb : Below w.heap.size w w') : ShapeT w' v l := by
  obtain ⟨a, c, rfl, h2⟩ := h
  refine ⟨a, c, rfl, fun k x hx => ?_⟩
  obtain ⟨b, off, h3, h4⟩ := h2 k x hx
  exact ⟨b, off, h3, (hb.cell (World.block_lt_of_cell? w _ h4)).trans h4⟩
theorem ShapeT.take {w : World} {a : Option Addr} {n c : Nat} {l : List (List UInt8)} (h : ShapeT w (.slice a n c) l) (k : Nat) (hk : k ≤ l.length) : ShapeT w (.slice a k c) (l.take k) := by
  obtain ⟨a', c', e, h2⟩ := h
  simp only [Value.slice.injEq] at e
  obtain ⟨rfl, -, rfl⟩ := e
  refine ⟨a, c, by rw [List.length_take, Nat.min_eq_left hk], fun j x hx => h2 j x ?_⟩
  rw [List.getElem?_take] at hx
  split at hx
  · exact hx
  · simp at hx
set_option maxHeartbeats 1000000 in
set_option maxRecDepth 100000 in
theorem SameTexts_sh (w : World) (v u : Value) (l m : List (List UInt8)) (hv : ShapeT w v l) (hu : ShapeT w u m) (hl : l.length ≤ 9223372036854775807) (_hm : m.length ≤ 9223372036854775807) :
    Calls Tryz.prog 12 #[v, u] w fun e w' => e = .returned (.bool (decide (l = m))) ∧ ∃ q, w' = w.drewN q := by
  obtain ⟨a, c, rfl, ha⟩ := hv
  obtain ⟨b, c2, rfl, hb⟩ := hu
  have HA := Lib.hid ha
  have HB := Lib.hid hb
  clear ha hb
  by_cases hlen : l.length = m.length
  · rw [hlen]
    have HL := Lib.hid hlen
    rw [hlen] at hl
    clear hlen
    go_enter Tryz.func12, Tryz.ntmps12
    go_wp2
    go_loopw [5] (fun i wr => ∃ k q : Nat, i = .int .i64 k ∧ k ≤ m.length ∧ Hid (l.take k = m.take k) ∧ wr = w.drewN q) (fun i _ => m.length - (intOf i).toNat)
    case atStart => exact ⟨0, 0, rfl, Nat.zero_le _, rfl, rfl⟩
    case round =>
      obtain ⟨k, q, rfl, hk, hE, rfl⟩ := hrel
      by_cases hlt : k < m.length
      · obtain ⟨x, hx⟩ : ∃ x, l[k]? = some x := ⟨_, List.getElem?_eq_getElem (by have := HL.out; omega)⟩
        obtain ⟨y, hy⟩ : ∃ y, m[k]? = some y := ⟨_, List.getElem?_eq_getElem hlt⟩
        obtain ⟨b1, o1, rfl, hc1⟩ := HA.out k x hx
        obtain ⟨b2, o2, rfl, hc2⟩ := HB.out k y hy
        have ht1 := toList_str x
        have ht2 := toList_str y
        have ik0 : (0 : Int) ≤ (k : Int) := by omega
        have ik1 : (k : Int) < (m.length : Int) := by omega
        have HX := Lib.hid hx
        have HY := Lib.hid hy
        clear hx hy
        by_cases hxy : x = y
        · subst hxy
          have hE2 : Hid (l.take (k + 1) = m.take (k + 1)) := by
            show _ = _
            rw [List.take_add_one, List.take_add_one, HX.out, HY.out, hE.out]
          clear ht1 ht2
          go_wp2
          go_quiet (fail)
          go_wp2
          go_roundw
          case rel => exact ⟨k + 1, _, by go_num, by omega, hE2, rfl⟩
          case measure => simp [intOf]; omega
        · have hq : ((str x).toList == (str y).toList) = false := by rw [ht1, ht2]; simpa using hxy
          have hne : l ≠ m := fun e => hxy (by
            have h1 := HX.out
            rw [e, HY.out] at h1
            exact (Option.some.inj h1).symm)
          have HN := Lib.hid hne
          clear hxy ht1 ht2 hne
          go_wp2
          go_quiet (fail)
          go_wp2
          go_ret
          exact ⟨by rw [decide_eq_false HN.out]; rfl, q + nq, drewN_add w q nq⟩
      · have he : l = m := by
          have h1 := hE.out
          rw [List.take_of_length_le (by have := HL.out; omega), List.take_of_length_le (by omega)] at h1
          exact h1
        have HE := Lib.hid he
        clear he
        go_wp2
        go_ret
        exact ⟨by rw [decide_eq_true HE.out]; rfl, _, rfl⟩
  · have hne : l ≠ m := fun e => hlen (by rw [e])
    have HN := Lib.hid hne
    clear hne
    have hq : ((l.length : Int) == (m.length : Int)) = false := by simp; omega
    have hq2 : ((l.length : Int) != (m.length : Int)) = true := by simp; omega
    clear hlen
    go_enter Tryz.func12, Tryz.ntmps12
    go_wp2
    go_ret
    exact ⟨by rw [decide_eq_false HN.out]; rfl, 0, rfl⟩
end Go.Proofs.YtfgpigblnkanpaaGreat
