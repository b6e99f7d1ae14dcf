/- The document's disk: tables that are read; at, without. -/
import Derived.Test.YtfgpigblnkanpaaGreatDoorGP
namespace Go.Proofs.YtfgpigblnkanpaaGreatDoor
open Go.RowKit Go.Maps Go.Shelf
set_option linter.unusedVariables false

def cellsT (t : Tb) : List Value := t.flatMap fun x => [strV x.1, .int .i64 (x.2 : Nat)]
theorem cellsT_append (a b : Tb) : cellsT (a ++ b) = cellsT a ++ cellsT b := by unfold cellsT; simp
theorem cellsT_len : ∀ t : Tb, (cellsT t).length = t.length * 2
  | [] => rfl
  | x :: t => by
    have := cellsT_len t
    show (strV x.1 :: Value.int .i64 (x.2 : Nat) :: cellsT t).length = _
    simp only [List.length_cons, this]
    omega
/-- A slice that reads as a table. -/
def TabAt (w : World) (v : Value) (t : Tb) : Prop := ∃ a c, v = .slice a t.length c ∧ ∀ k x, t[k]? = some x → ∃ b off, a = some ⟨b, off, none⟩ ∧ w.cell? ⟨b, off + k * 2, none⟩ = some (strV x.1) ∧ w.cell? ⟨b, off + k * 2 + 1, none⟩ = some (.int .i64 (x.2 : Nat))
theorem TabAt.below {w w' : World} {v : Value} {t : Tb} (h : TabAt w v t) (hb : Below w.heap.size w w') : TabAt w' v t := by
  obtain ⟨a, c, rfl, h2⟩ := h
  refine ⟨a, c, rfl, fun k x hx => ?_⟩
  obtain ⟨b, off, h3, h4, h5⟩ := h2 k x hx
  exact ⟨b, off, h3, (hb.cell (World.block_lt_of_cell? w _ h4)).trans h4, (hb.cell (World.block_lt_of_cell? w _ h5)).trans h5⟩
theorem cellsT_at : ∀ (t : Tb) (k : Nat) (x : Nm × Nat), t[k]? = some x → (cellsT t)[k * 2]? = some (strV x.1) ∧ (cellsT t)[k * 2 + 1]? = some (.int .i64 (x.2 : Nat))
  | [], k, x, h => by simp at h
  | y :: t, 0, x, h => by simp at h; subst h; exact ⟨rfl, rfl⟩
  | y :: t, k + 1, x, h => by
    have := cellsT_at t k x (by simpa using h)
    rw [show (k + 1) * 2 = k * 2 + 1 + 1 from by omega]
    show (strV y.1 :: Value.int .i64 (y.2 : Nat) :: cellsT t)[k * 2 + 1 + 1]? = _ ∧ (strV y.1 :: Value.int .i64 (y.2 : Nat) :: cellsT t)[k * 2 + 1 + 1 + 1]? = _
    simpa using this
theorem TabAt.of_row {w : World} {B : Nat} {v : Value} {t : Tb} (h : w.ownsRow B 164 2 v t.length (cellsT t)) : TabAt w v t := by
  rcases h.2 with ⟨rfl, h0⟩ | ⟨g, cap, cur, rfl, _, hg, h1, h2, h3, h4⟩
  · have : t = [] := List.eq_nil_of_length_eq_zero h0
    subst this
    exact ⟨none, 0, rfl, fun k x hx => by simp at hx⟩
  · refine ⟨_, cap, rfl, fun k x hx => ⟨g, 0, rfl, ?_⟩⟩
    obtain ⟨q1, q2⟩ := cellsT_at t k x hx
    have hk := (List.getElem?_eq_some_iff.1 hx).1
    have key : ∀ j u, (cellsT t)[j]? = some u → w.cell? ⟨g, j, none⟩ = some u := fun j u hu => by
      have hj := (List.getElem?_eq_some_iff.1 hu).1
      rw [← h4] at hu
      rw [List.getElem?_take_of_lt (by rw [cellsT_len] at hj; omega)] at hu
      unfold World.cell?
      simp only [hg]
      simpa using hu
    exact ⟨by rw [Nat.zero_add]; exact key _ _ q1, by rw [Nat.zero_add]; exact key _ _ q2⟩
theorem tget_first : ∀ (t : Tb) (k : Nat) (n : Nm) (f : Nat), (∀ (j : Nat) (x : Nm × Nat), j < k → t[j]? = some x → x.1 ≠ n) → t[k]? = some (n, f) → tget t n = some f
  | [], k, n, f, _, h => by simp at h
  | y :: t, 0, n, f, _, h => by
    simp at h
    subst h
    rw [tget_cons, if_pos rfl]
  | y :: t, k + 1, n, f, hn, h => by
    rw [tget_cons, if_neg (hn 0 y (by omega) rfl)]
    exact tget_first t k n f (fun j x hj hx => hn (j + 1) x (by omega) (by simpa using hx)) (by simpa using h)
theorem tget_never : ∀ (t : Tb) (n : Nm), (∀ (j : Nat) (x : Nm × Nat), t[j]? = some x → x.1 ≠ n) → tget t n = none
  | [], n, _ => tget_nil n
  | y :: t, n, hn => by
    rw [tget_cons, if_neg (hn 0 y rfl)]
    exact tget_never t n fun j x hx => hn (j + 1) x (by simpa using hx)
/-- What at answers. -/
def AtPost (t : Tb) (n : Nm) (p : Int) : Prop := (p = -1 ∧ tget t n = none) ∨ ∃ k f, p = ((k : Nat) : Int) ∧ t[k]? = some (n, f) ∧ tget t n = some f
set_option maxHeartbeats 2000000 in
set_option maxRecDepth 100000 in
theorem rAt_any (w : World) (v : Value) (t : Tb) (n : Nm) (h : TabAt w v t) (hl : t.length ≤ 4611686018427387903) : Calls Tryz.prog 121 #[v, strV n] w fun e w' => ∃ p, e = .returned (.int .i64 p) ∧ AtPost t n p ∧ w = w' := by
  obtain ⟨a, c, rfl, hx⟩ := h
  have HX := Lib.hid hx
  clear hx
  go_enter Tryz.func121, Tryz.ntmps121
  go_wp2_with (fail)
  go_loopw [5] (fun iv wr => ∃ k : Nat, iv = .int .i64 k ∧ k ≤ t.length ∧ Hid (∀ j x, j < k → t[j]? = some x → x.1 ≠ n) ∧ wr = w) (fun iv _ => t.length - (intOf iv).toNat)
  case atStart => exact ⟨0, rfl, Nat.zero_le _, fun j x hj => by omega, rfl⟩
  case round =>
    obtain ⟨k, rfl, hk, hN, rfl⟩ := hrel
    by_cases hlt : k < t.length
    · obtain ⟨x, hx⟩ : ∃ x, t[k]? = some x := ⟨_, List.getElem?_eq_getElem hlt⟩
      obtain ⟨b, off, rfl, c0, c1⟩ := HX.out k x hx
      have HT := Lib.hid hx
      have ik0 : (0 : Int) ≤ (k : Int) := by omega
      have ik1 : (k : Int) < (t.length : Int) := by omega
      clear hx
      by_cases hq : x.1 = n
      · have hb : ((str x.1).toList == (str n).toList) = true := by rw [hq]; simp
        have hp : AtPost t n k := Or.inr ⟨k, x.2, rfl, by rw [HT.out, ← hq], tget_first t k n x.2 hN.out (by rw [HT.out, ← hq])⟩
        have HP := Lib.hid hp
        clear hq hp
        go_wp2
        go_ret
        exact ⟨_, rfl, HP.out, rfl⟩
      · have hb : ((str x.1).toList == (str n).toList) = false := by rw [toList_str, toList_str]; simpa using hq
        have hN2 : Hid (∀ j y, j < k + 1 → t[j]? = some y → y.1 ≠ n) := fun j y hj hy => by
          by_cases e : j = k
          · subst e
            rw [HT.out] at hy
            cases hy
            exact hq
          · exact hN.out j y (by omega) hy
        have HN2 := Lib.hid hN2
        clear hq hN2
        go_wp2
        go_roundw
        case rel => exact ⟨k + 1, by go_num, by omega, HN2.out, trivial⟩
        case measure => simp [intOf]; omega
    · obtain rfl : k = t.length := by omega
      have hp : AtPost t n (-1) := Or.inl ⟨rfl, tget_never t n fun j x hx => hN.out j x (List.getElem?_eq_some_iff.1 hx).1 hx⟩
      have HP := Lib.hid hp
      clear hp
      go_wp2
      go_ret
      exact ⟨_, rfl, HP.out, rfl⟩
theorem infoLink : (Tryz.prog.info? 164).map (fun i => (i.zero, i.size, i.bytes)) = some (some (.agg #[strV [], .int .i64 0]), 2, 24) := by kernel_rfl
set_option maxHeartbeats 4000000 in
set_option maxRecDepth 100000 in
theorem rWithout_any (w : World) (v : Value) (t : Tb) (n : Nm) (h : TabAt w v t) (hl : t.length ≤ 4294967296) : Calls Tryz.prog 149 #[v, strV n] w fun e w' => ∃ v', e = .returned v' ∧ w'.ownsRow w.heap.size 164 2 v' (tout t n).length (cellsT (tout t n)) ∧ Below w.heap.size w w' := by
  obtain ⟨i0, hi, hz0, hz1, hz2⟩ := info_parts infoLink
  have HT := Lib.hid h
  obtain ⟨a, c, rfl, -⟩ := h
  go_enter Tryz.func149, Tryz.ntmps149
  go_wp2_with (fail)
  go_loopw [5, 6] (fun u iv wr => ∃ k : Nat, iv = .int .i64 k ∧ k ≤ t.length ∧ wr.ownsRow w.heap.size 164 2 u (tout (t.take k) n).length (cellsT (tout (t.take k) n)) ∧ Below w.heap.size w wr) (fun _ iv _ => t.length - (intOf iv).toNat)
  case atStart => exact ⟨0, rfl, Nat.zero_le _, World.ownsRow_nil _ _ _ _, Below.refl _ _⟩
  case round =>
    obtain ⟨k, rfl, hk, hown, hbel⟩ := hrel
    have hsz := hbel.size
    by_cases hlt : k < t.length
    · obtain ⟨x, hx⟩ : ∃ x, t[k]? = some x := ⟨_, List.getElem?_eq_getElem hlt⟩
      obtain ⟨_, _, hwe, hrx⟩ := HT.out.below hbel
      simp only [Value.slice.injEq] at hwe
      obtain ⟨rfl, -, rfl⟩ := hwe
      obtain ⟨b, off, rfl, c0, c1⟩ := hrx k x hx
      have htk : t.take (k + 1) = t.take k ++ [x] := by rw [List.take_add_one, hx]; rfl
      have hlen : (tout (t.take k) n).length ≤ t.length := by
        have h1 : (tout (t.take k) n).length ≤ (t.take k).length := List.length_filter_le _ _
        rw [List.length_take] at h1
        omega
      have ik0 : (0 : Int) ≤ (k : Int) := by omega
      have ik1 : (k : Int) < (t.length : Int) := by omega
      by_cases hq : x.1 = n
      · have hb : ((str x.1).toList == (str n).toList) = true := by rw [hq]; simp
        have he : tout (t.take (k + 1)) n = tout (t.take k) n := by rw [htk]; unfold tout; rw [List.filter_append]; simp [hq]
        rw [← he] at hown
        have HO := Lib.hid hown
        have HB := Lib.hid hbel
        clear hx hrx htk hq he hown hbel hlen
        go_wp2
        go_roundw
        case rel => exact ⟨k + 1, by go_num, by omega, HO.out, HB.out⟩
        case measure => simp [intOf]; omega
      · have hb : ((str x.1).toList == (str n).toList) = false := by rw [toList_str, toList_str]; simpa using hq
        have he : tout (t.take (k + 1)) n = tout (t.take k) n ++ [x] := by rw [htk]; unfold tout; rw [List.filter_append]; simp [hq]
        have hec : cellsT (tout (t.take (k + 1)) n) = cellsT (tout (t.take k) n) ++ [strV x.1, .int .i64 (x.2 : Nat)] := by rw [he, cellsT_append]; rfl
        have hel : (tout (t.take (k + 1)) n).length = (tout (t.take k) n).length + 1 := by rw [he]; simp
        have HEC := Lib.hid hec
        have HEL := Lib.hid hel
        have HB := Lib.hid hbel
        have hlt5 := hown.lt
        have HLT := Lib.hid hlt5
        generalize (tout (t.take k) n) = q at *
        clear hx hrx htk hq he hec hel hlt5
        go_wp2_with (at_builtin; refine wpList_append_own _ rfl _ _ 116 rfl w.heap.size 164 i0 (.agg #[strV [], .int .i64 0]) 2 24 Tryz.underlying116 hi hz0 hz1 hz2 rfl (by omega) _ q.length (cellsT q) rfl (hown.alloc _) ⟨wr.heap.size, 0, none⟩ 1 1 [strV x.1, .int .i64 (x.2 : Nat)] rfl rfl ?c1 ?c2 ?c3 ?c4 ?c5 ?_)
        case c1 => exact World.news_of_block (cs := #[strV x.1, .int .i64 (x.2 : Nat)]) (t := 164) (fr := (0, 0)) (heap_alloc_new wr _)
        case c2 => simp [Value.oneCell']
        case c3 => unfold maxLen; omega
        case c4 => omega
        case c5 => simp; omega
        intro v' w5 hown5 hgrow5 hv5
        have hbel5 : Below w.heap.size w w5 := (HB.out.alloc hsz _).grown hgrow5 (by simp; omega) (fun j hj => (HLT.out j hj).1)
        rw [← HEC.out, ← HEL.out] at hown5
        have HO5 := Lib.hid hown5
        have HB5 := Lib.hid hbel5
        clear hown5 hgrow5 hv5 hown hbel5
        go_wp2
        go_roundw
        case rel => exact ⟨k + 1, by go_num, by omega, HO5.out, HB5.out⟩
        case measure => simp [intOf]; omega
    · obtain rfl : k = t.length := by omega
      rw [List.take_length] at hown
      have HO := Lib.hid hown
      have HB := Lib.hid hbel
      clear hown hbel
      go_wp2
      go_ret
      exact ⟨_, rfl, HO.out, HB.out⟩
end Go.Proofs.YtfgpigblnkanpaaGreatDoor
