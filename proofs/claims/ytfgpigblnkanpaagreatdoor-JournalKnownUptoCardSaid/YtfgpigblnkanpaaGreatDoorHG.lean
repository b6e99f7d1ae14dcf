/- The document's disk: tables that are read; at, without. The document's disk: with. The document's disk: right, done. -/
import Derived.Test.YtfgpigblnkanpaaGreatDoorGP
import Derived.Deep.RegionHeld3
import Derived.BigRegion
import Derived.Deep.RegionWith
namespace Go.Proofs.YtfgpigblnkanpaaGreatDoor
open Go.RowKit Go.Maps Go.Shelf
set_option linter.unusedVariables false

def cellsT (t : Tb) : List Value := t.flatMap fun x => [strV x.1, .int .i64 (x.2 : Nat)]
theorem cellsT_append (a b : Tb) : cellsT (a ++ b) = cellsT a ++ cellsT b := by unfold cellsT; simp
theorem cellsT_len : ∀ t : Tb, (cellsT t).length = t.length * 2
  | [] => rfl
  | x :: t => by
    have := cellsT_len t
    show (strV x.1 :: Value.int .i64 (x.2 : Nat) :: cellsT t).length = _
    simp only [List.length_cons, this]
    omega
/-- A slice that reads as a table. -/
def TabAt (w : World) (v : Value) (t : Tb) : Prop := ∃ a c, v = .slice a t.length c ∧ ∀ k x, t[k]? = some x → ∃ b off, a = some ⟨b, off, none⟩ ∧ w.cell? ⟨b, off + k * 2, none⟩ = some (strV x.1) ∧ w.cell? ⟨b, off + k * 2 + 1, none⟩ = some (.int .i64 (x.2 : Nat))
theorem TabAt.below {w w' : World} {v : Value} {t : Tb} (h : TabAt w v t) (hb : Below w.heap.size w w') : TabAt w' v t := by
  obtain ⟨a, c, rfl, h2⟩ := h
  refine ⟨a, c, rfl, fun k x hx => ?_⟩
  obtain ⟨b, off, h3, h4, h5⟩ := h2 k x hx
  exact ⟨b, off, h3, (hb.cell (World.block_lt_of_cell? w _ h4)).trans h4, (hb.cell (World.block_lt_of_cell? w _ h5)).trans h5⟩
theorem cellsT_at : ∀ (t : Tb) (k : Nat) (x : Nm × Nat), t[k]? = some x → (cellsT t)[k * 2]? = some (strV x.1) ∧ (cellsT t)[k * 2 + 1]? = some (.int .i64 (x.2 : Nat))
  | [], k, x, h => by simp at h
  | y :: t, 0, x, h => by simp at h; subst h; exact ⟨rfl, rfl⟩
  | y :: t, k + 1, x, h => by
    have := cellsT_at t k x (by simpa using h)
    rw [show (k + 1) * 2 = k * 2 + 1 + 1 from by omega]
    show (strV y.1 :: Value.int .i64 (y.2 : Nat) :: cellsT t)[k * 2 + 1 + 1]? = _ ∧ (strV y.1 :: Value.int .i64 (y.2 : Nat) :: cellsT t)[k * 2 + 1 + 1 + 1]? = _
    simpa using this
theorem TabAt.of_row {w : World} {B : Nat} {v : Value} {t : Tb} (h : w.ownsRow B 164 2 v t.length (cellsT t)) : TabAt w v t := by
  rcases h.2 with ⟨rfl, h0⟩ | ⟨g, cap, cur, rfl, _, hg, h1, h2, h3, h4⟩
  · have : t = [] := List.eq_nil_of_length_eq_zero h0
    subst this
    exact ⟨none, 0, rfl, fun k x hx => by simp at hx⟩
  · refine ⟨_, cap, rfl, fun k x hx => ⟨g, 0, rfl, ?_⟩⟩
    obtain ⟨q1, q2⟩ := cellsT_at t k x hx
    have hk := (List.getElem?_eq_some_iff.1 hx).1
    have key : ∀ j u, (cellsT t)[j]? = some u → w.cell? ⟨g, j, none⟩ = some u := fun j u hu => by
      have hj := (List.getElem?_eq_some_iff.1 hu).1
      rw [← h4] at hu
      rw [List.getElem?_take_of_lt (by rw [cellsT_len] at hj; omega)] at hu
      unfold World.cell?
      simp only [hg]
      simpa using hu
    exact ⟨by rw [Nat.zero_add]; exact key _ _ q1, by rw [Nat.zero_add]; exact key _ _ q2⟩
theorem tget_first : ∀ (t : Tb) (k : Nat) (n : Nm) (f : Nat), (∀ (j : Nat) (x : Nm × Nat), j < k → t[j]? = some x → x.1 ≠ n) → t[k]? = some (n, f) → tget t n = some f
  | [], k, n, f, _, h => by simp at h
  | y :: t, 0, n, f, _, h => by
    simp at h
    subst h
    rw [tget_cons, if_pos rfl]
  | y :: t, k + 1, n, f, hn, h => by
    rw [tget_cons, if_neg (hn 0 y (by omega) rfl)]
    exact tget_first t k n f (fun j x hj hx => hn (j + 1) x (by omega) (by simpa using hx)) (by simpa using h)
theorem tget_never : ∀ (t : Tb) (n : Nm), (∀ (j : Nat) (x : Nm × Nat), t[j]? = some x → x.1 ≠ n) → tget t n = none
  | [], n, _ => tget_nil n
  | y :: t, n, hn => by
    rw [tget_cons, if_neg (hn 0 y rfl)]
    exact tget_never t n fun j x hx => hn (j + 1) x (by simpa using hx)
/-- What at answers. -/
def AtPost (t : Tb) (n : Nm) (p : Int) : Prop := (p = -1 ∧ tget t n = none) ∨ ∃ k f, p = ((k : Nat) : Int) ∧ t[k]? = some (n, f) ∧ tget t n = some f
set_option maxHeartbeats 2000000 in
set_option maxRecDepth 100000 in
theorem rAt_any (w : World) (v : Value) (t : Tb) (n : Nm) (h : TabAt w v t) (hl : t.length ≤ 4611686018427387903) : Calls Tryz.prog 121 #[v, strV n] w fun e w' => ∃ p, e = .returned (.int .i64 p) ∧ AtPost t n p ∧ w = w' := by
  obtain ⟨a, c, rfl, hx⟩ := h
  have HX := Lib.hid hx
  clear hx
  go_enter Tryz.func121, Tryz.ntmps121
  go_wp2_with (fail)
  go_loopw [5] (fun iv wr => ∃ k : Nat, iv = .int .i64 k ∧ k ≤ t.length ∧ Hid (∀ j x, j < k → t[j]? = some x → x.1 ≠ n) ∧ wr = w) (fun iv _ => t.length - (intOf iv).toNat)
  case atStart => exact ⟨0, rfl, Nat.zero_le _, fun j x hj => by omega, rfl⟩
  case round =>
    obtain ⟨k, rfl, hk, hN, rfl⟩ := hrel
    by_cases hlt : k < t.length
    · obtain ⟨x, hx⟩ : ∃ x, t[k]? = some x := ⟨_, List.getElem?_eq_getElem hlt⟩
      obtain ⟨b, off, rfl, c0, c1⟩ := HX.out k x hx
      have HT := Lib.hid hx
      have ik0 : (0 : Int) ≤ (k : Int) := by omega
      have ik1 : (k : Int) < (t.length : Int) := by omega
      clear hx
      by_cases hq : x.1 = n
      · have hb : ((str x.1).toList == (str n).toList) = true := by rw [hq]; simp
        have hp : AtPost t n k := Or.inr ⟨k, x.2, rfl, by rw [HT.out, ← hq], tget_first t k n x.2 hN.out (by rw [HT.out, ← hq])⟩
        have HP := Lib.hid hp
        clear hq hp
        go_wp2
        go_ret
        exact ⟨_, rfl, HP.out, rfl⟩
      · have hb : ((str x.1).toList == (str n).toList) = false := by rw [toList_str, toList_str]; simpa using hq
        have hN2 : Hid (∀ j y, j < k + 1 → t[j]? = some y → y.1 ≠ n) := fun j y hj hy => by
          by_cases e : j = k
          · subst e
            rw [HT.out] at hy
            cases hy
            exact hq
          · exact hN.out j y (by omega) hy
        have HN2 := Lib.hid hN2
        clear hq hN2
        go_wp2
        go_roundw
        case rel => exact ⟨k + 1, by go_num, by omega, HN2.out, trivial⟩
        case measure => simp [intOf]; omega
    · obtain rfl : k = t.length := by omega
      have hp : AtPost t n (-1) := Or.inl ⟨rfl, tget_never t n fun j x hx => hN.out j x (List.getElem?_eq_some_iff.1 hx).1 hx⟩
      have HP := Lib.hid hp
      clear hp
      go_wp2
      go_ret
      exact ⟨_, rfl, HP.out, rfl⟩
theorem infoLink : (Tryz.prog.info? 164).map (fun i => (i.zero, i.size, i.bytes)) = some (some (.agg #[strV [], .int .i64 0]), 2, 24) := by kernel_rfl
set_option maxHeartbeats 4000000 in
set_option maxRecDepth 100000 in
theorem rWithout_any (w : World) (v : Value) (t : Tb) (n : Nm) (h : TabAt w v t) (hl : t.length ≤ 4294967296) : Calls Tryz.prog 149 #[v, strV n] w fun e w' => ∃ v', e = .returned v' ∧ w'.ownsRow w.heap.size 164 2 v' (tout t n).length (cellsT (tout t n)) ∧ Below w.heap.size w w' := by
  obtain ⟨i0, hi, hz0, hz1, hz2⟩ := info_parts infoLink
  have HT := Lib.hid h
  obtain ⟨a, c, rfl, -⟩ := h
  go_enter Tryz.func149, Tryz.ntmps149
  go_wp2_with (fail)
  go_loopw [5, 6] (fun u iv wr => ∃ k : Nat, iv = .int .i64 k ∧ k ≤ t.length ∧ wr.ownsRow w.heap.size 164 2 u (tout (t.take k) n).length (cellsT (tout (t.take k) n)) ∧ Below w.heap.size w wr) (fun _ iv _ => t.length - (intOf iv).toNat)
  case atStart => exact ⟨0, rfl, Nat.zero_le _, World.ownsRow_nil _ _ _ _, Below.refl _ _⟩
  case round =>
    obtain ⟨k, rfl, hk, hown, hbel⟩ := hrel
    have hsz := hbel.size
    by_cases hlt : k < t.length
    · obtain ⟨x, hx⟩ : ∃ x, t[k]? = some x := ⟨_, List.getElem?_eq_getElem hlt⟩
      obtain ⟨_, _, hwe, hrx⟩ := HT.out.below hbel
      simp only [Value.slice.injEq] at hwe
      obtain ⟨rfl, -, rfl⟩ := hwe
      obtain ⟨b, off, rfl, c0, c1⟩ := hrx k x hx
      have htk : t.take (k + 1) = t.take k ++ [x] := by rw [List.take_add_one, hx]; rfl
      have hlen : (tout (t.take k) n).length ≤ t.length := by
        have h1 : (tout (t.take k) n).length ≤ (t.take k).length := List.length_filter_le _ _
        rw [List.length_take] at h1
        omega
      have ik0 : (0 : Int) ≤ (k : Int) := by omega
      have ik1 : (k : Int) < (t.length : Int) := by omega
      by_cases hq : x.1 = n
      · have hb : ((str x.1).toList == (str n).toList) = true := by rw [hq]; simp
        have he : tout (t.take (k + 1)) n = tout (t.take k) n := by rw [htk]; unfold tout; rw [List.filter_append]; simp [hq]
        rw [← he] at hown
        have HO := Lib.hid hown
        have HB := Lib.hid hbel
        clear hx hrx htk hq he hown hbel hlen
        go_wp2
        go_roundw
        case rel => exact ⟨k + 1, by go_num, by omega, HO.out, HB.out⟩
        case measure => simp [intOf]; omega
      · have hb : ((str x.1).toList == (str n).toList) = false := by rw [toList_str, toList_str]; simpa using hq
        have he : tout (t.take (k + 1)) n = tout (t.take k) n ++ [x] := by rw [htk]; unfold tout; rw [List.filter_append]; simp [hq]
        have hec : cellsT (tout (t.take (k + 1)) n) = cellsT (tout (t.take k) n) ++ [strV x.1, .int .i64 (x.2 : Nat)] := by rw [he, cellsT_append]; rfl
        have hel : (tout (t.take (k + 1)) n).length = (tout (t.take k) n).length + 1 := by rw [he]; simp
        have HEC := Lib.hid hec
        have HEL := Lib.hid hel
        have HB := Lib.hid hbel
        have hlt5 := hown.lt
        have HLT := Lib.hid hlt5
        generalize (tout (t.take k) n) = q at *
        clear hx hrx htk hq he hec hel hlt5
        go_wp2_with (at_builtin; refine wpList_append_own _ rfl _ _ 116 rfl w.heap.size 164 i0 (.agg #[strV [], .int .i64 0]) 2 24 Tryz.underlying116 hi hz0 hz1 hz2 rfl (by omega) _ q.length (cellsT q) rfl (hown.alloc _) ⟨wr.heap.size, 0, none⟩ 1 1 [strV x.1, .int .i64 (x.2 : Nat)] rfl rfl ?c1 ?c2 ?c3 ?c4 ?c5 ?_)
        case c1 => exact World.news_of_block (cs := #[strV x.1, .int .i64 (x.2 : Nat)]) (t := 164) (fr := (0, 0)) (heap_alloc_new wr _)
        case c2 => simp [Value.oneCell']
        case c3 => unfold maxLen; omega
        case c4 => omega
        case c5 => simp; omega
        intro v' w5 hown5 hgrow5 hv5
        have hbel5 : Below w.heap.size w w5 := (HB.out.alloc hsz _).grown hgrow5 (by simp; omega) (fun j hj => (HLT.out j hj).1)
        rw [← HEC.out, ← HEL.out] at hown5
        have HO5 := Lib.hid hown5
        have HB5 := Lib.hid hbel5
        clear hown5 hgrow5 hv5 hown hbel5
        go_wp2
        go_roundw
        case rel => exact ⟨k + 1, by go_num, by omega, HO5.out, HB5.out⟩
        case measure => simp [intOf]; omega
    · obtain rfl : k = t.length := by omega
      rw [List.take_length] at hown
      have HO := Lib.hid hown
      have HB := Lib.hid hbel
      clear hown hbel
      go_wp2
      go_ret
      exact ⟨_, rfl, HO.out, HB.out⟩
end Go.Proofs.YtfgpigblnkanpaaGreatDoor

namespace Go.Proofs.YtfgpigblnkanpaaGreatDoor
open Go.RowKit Go.Maps Go.Shelf
set_option linter.unusedVariables false

/-- While with goes on: what is laid of the first k. -/
def tdk (t : Tb) (n : Nm) (k : Nat) : Bool := (t.take k).any fun y => !nlt y.1 n
def outT (t : Tb) (n : Nm) (f k : Nat) : Tb := ((t.take k).filter fun x => nlt x.1 n) ++ if tdk t n k = true then (n, f) :: (t.take k).filter fun x => nlt n x.1 else []
theorem outT_len (t : Tb) (n : Nm) (f k : Nat) : (outT t n f k).length ≤ 2 * t.length + 1 := by
  unfold outT
  have h1 : ((t.take k).filter fun x => nlt x.1 n).length ≤ (t.take k).length := List.length_filter_le _ _
  have h2 : ((t.take k).filter fun x => nlt n x.1).length ≤ (t.take k).length := List.length_filter_le _ _
  rw [List.length_take] at h1 h2
  rw [List.length_append]
  split <;> simp only [List.length_cons, List.length_nil] <;> omega
theorem rise_before {t : Tb} (hr : Rise t) {k j : Nat} {x y : Nm × Nat} (hx : t[k]? = some x) (hy : t[j]? = some y) (h : j < k) : nlt y.1 x.1 = true := by
  obtain ⟨hj, rfl⟩ := List.getElem?_eq_some_iff.1 hy
  obtain ⟨hk, rfl⟩ := List.getElem?_eq_some_iff.1 hx
  exact List.pairwise_iff_getElem.1 hr j k hj hk h
theorem tdk_false {t : Tb} (hr : Rise t) {n : Nm} {k : Nat} {x : Nm × Nat} (hx : t[k]? = some x) (h : nlt n x.1 = false) : tdk t n k = false := by
  unfold tdk
  rw [List.any_eq_false]
  intro y hy
  obtain ⟨j, hj, e⟩ := List.getElem_of_mem hy
  rw [List.length_take] at hj
  have hjt : t[j]? = some y := by
    rw [List.getElem_take] at e
    rw [List.getElem?_eq_getElem (by omega), e]
  have h1 := rise_before hr hx hjt (by omega)
  rcases nlt_tri x.1 n with h2 | h2 | h2
  · simp [nlt_trans h1 h2]
  · rw [← h2]; simp [h1]
  · rw [h2] at h; cases h
theorem none_above {t : Tb} {n : Nm} {k : Nat} (h : tdk t n k = false) : ((t.take k).filter fun x => nlt n x.1) = [] := by
  rw [List.filter_eq_nil_iff]
  intro y hy
  unfold tdk at h
  rw [List.any_eq_false] at h
  have := h y hy
  simp at this
  simp [nlt_asymm this]
theorem tdk_succ {t : Tb} {n : Nm} {k : Nat} {x : Nm × Nat} (hx : t[k]? = some x) : tdk t n (k + 1) = (tdk t n k || !nlt x.1 n) := by
  unfold tdk
  rw [List.take_add_one, hx]
  simp
theorem outT_low {t : Tb} (hr : Rise t) {n : Nm} {f k : Nat} {x : Nm × Nat} (hx : t[k]? = some x) (h : nlt x.1 n = true) : outT t n f (k + 1) = outT t n f k ++ [x] ∧ tdk t n k = false ∧ tdk t n (k + 1) = false := by
  have h1 := tdk_false hr hx (nlt_asymm h)
  have h2 : tdk t n (k + 1) = false := by rw [tdk_succ hx, h1, h]; rfl
  refine ⟨?_, h1, h2⟩
  unfold outT
  rw [h1, h2, List.take_add_one, hx]
  simp [h]
theorem outT_same {t : Tb} (hr : Rise t) {n : Nm} {f k : Nat} {x : Nm × Nat} (hx : t[k]? = some x) (h : x.1 = n) : outT t n f (k + 1) = outT t n f k ++ [(n, f)] ∧ tdk t n k = false ∧ tdk t n (k + 1) = true := by
  have h1 := tdk_false (n := n) hr hx (by rw [h, nlt_irrefl])
  have h2 : tdk t n (k + 1) = true := by rw [tdk_succ hx, h1, h, nlt_irrefl]; rfl
  refine ⟨?_, h1, h2⟩
  have h3 := none_above h1
  unfold outT
  rw [h1, h2, List.take_add_one, hx]
  simp only [Option.toList_some, List.filter_append, h3]
  simp [h, nlt_irrefl]
theorem outT_first {t : Tb} {n : Nm} {f k : Nat} {x : Nm × Nat} (hx : t[k]? = some x) (h : nlt n x.1 = true) (hd : tdk t n k = false) : outT t n f (k + 1) = outT t n f k ++ [(n, f)] ++ [x] ∧ tdk t n (k + 1) = true := by
  have h2 : tdk t n (k + 1) = true := by rw [tdk_succ hx, hd, nlt_asymm h]; rfl
  refine ⟨?_, h2⟩
  have h3 := none_above hd
  unfold outT
  rw [hd, h2, List.take_add_one, hx]
  simp only [Option.toList_some, List.filter_append, h3]
  simp [h, nlt_asymm h]
theorem outT_high {t : Tb} {n : Nm} {f k : Nat} {x : Nm × Nat} (hx : t[k]? = some x) (h : nlt n x.1 = true) (hd : tdk t n k = true) : outT t n f (k + 1) = outT t n f k ++ [x] ∧ tdk t n (k + 1) = true := by
  have h2 : tdk t n (k + 1) = true := by rw [tdk_succ hx, hd]; rfl
  refine ⟨?_, h2⟩
  unfold outT
  rw [hd, h2, List.take_add_one, hx]
  simp [h, nlt_asymm h]
theorem outT_all (t : Tb) (n : Nm) (f : Nat) : tins t n f = outT t n f t.length ++ if tdk t n t.length = true then [] else [(n, f)] := by
  by_cases hd : tdk t n t.length = true
  · unfold outT tins
    rw [if_pos hd, if_pos hd, List.take_length]
    simp
  · have hd' : tdk t n t.length = false := by simpa using hd
    have h3 := none_above hd'
    rw [List.take_length] at h3
    unfold outT tins
    rw [if_neg hd, if_neg hd, List.take_length, h3]
    simp
set_option maxHeartbeats 8000000 in
set_option maxRecDepth 100000 in
theorem rWith_any (w : World) (v : Value) (t : Tb) (n : Nm) (f : Nat) (h : TabAt w v t) (hr : Rise t) (hl : t.length ≤ 4294967296) (hfn : f ≤ 9223372036854775807) : Calls Tryz.prog 148 #[v, strV n, .int .i64 f] w fun e w' => ∃ v', e = .returned v' ∧ w'.ownsRow w.heap.size 164 2 v' (tins t n f).length (cellsT (tins t n f)) ∧ Below w.heap.size w w' := by
  obtain ⟨i0, hi, hz0, hz1, hz2⟩ := info_parts infoLink
  have HT := Lib.hid h
  have HR := Lib.hid hr
  obtain ⟨a, c, rfl, -⟩ := h
  clear hr
  go_enter Tryz.func148, Tryz.ntmps148
  go_wp2_with (fail)
  go_loopw [7, 8, 9] (fun u dv iv wr => ∃ k : Nat, iv = .int .i64 k ∧ k ≤ t.length ∧ dv = .bool (tdk t n k) ∧ wr.ownsRow w.heap.size 164 2 u (outT t n f k).length (cellsT (outT t n f k)) ∧ Below w.heap.size w wr) (fun _ _ iv _ => t.length - (intOf iv).toNat)
  case atStart => exact ⟨0, rfl, Nat.zero_le _, rfl, World.ownsRow_nil _ _ _ _, Below.refl _ _⟩
  case round =>
    obtain ⟨k, rfl, hk, rfl, hown, hbel⟩ := hrel
    have hsz := hbel.size
    have hol := outT_len t n f k
    by_cases hlt : k < t.length
    · obtain ⟨x, hx⟩ : ∃ x, t[k]? = some x := ⟨_, List.getElem?_eq_getElem hlt⟩
      obtain ⟨_, _, hwe, hrx⟩ := HT.out.below hbel
      simp only [Value.slice.injEq] at hwe
      obtain ⟨rfl, -, rfl⟩ := hwe
      obtain ⟨b, off, rfl, c0, c1⟩ := hrx k x hx
      have ik0 : (0 : Int) ≤ (k : Int) := by omega
      have ik1 : (k : Int) < (t.length : Int) := by omega
      have HB := Lib.hid hbel
      have HLT := Lib.hid hown.lt
      have HXX := Lib.hid hx
      clear hrx hbel hx
      rcases nlt_tri x.1 n with hq | hq | hq
      · obtain ⟨e1, e2, e3⟩ := outT_low (f := f) HR.out HXX.out hq
        have b1 : Op.bytesLess (str x.1).toList (str n).toList = true := by rw [toList_str, toList_str]; exact hq
        have b2 : Op.bytesLess (str n).toList (str x.1).toList = false := by rw [toList_str, toList_str]; exact nlt_asymm hq
        have b3 : ((str x.1).toList == (str n).toList) = false := by rw [toList_str, toList_str]; simpa using nlt_ne hq
        have b4 : ((str n).toList == (str x.1).toList) = false := by rw [toList_str, toList_str]; simpa using (nlt_ne hq).symm
        have HEC := Lib.hid (show cellsT (outT t n f (k + 1)) = cellsT (outT t n f k) ++ [strV x.1, .int .i64 (x.2 : Nat)] by rw [e1, cellsT_append]; rfl)
        have HEL := Lib.hid (show (outT t n f (k + 1)).length = (outT t n f k).length + 1 by rw [e1]; simp)
        have HD := Lib.hid e3
        rw [e2]
        clear hq e1 e2 e3
        generalize outT t n f k = q at *
        go_wp2_with (at_builtin; refine wpList_append_own _ rfl _ _ 116 rfl w.heap.size 164 i0 (.agg #[strV [], .int .i64 0]) 2 24 Tryz.underlying116 hi hz0 hz1 hz2 rfl (by omega) _ q.length (cellsT q) rfl (hown.alloc _) ⟨wr.heap.size, 0, none⟩ 1 1 [strV x.1, .int .i64 (x.2 : Nat)] rfl rfl ?c1 ?c2 ?c3 ?c4 ?c5 ?_)
        case c1 => exact World.news_of_block (cs := #[strV x.1, .int .i64 (x.2 : Nat)]) (t := 164) (fr := (0, 0)) (heap_alloc_new wr _)
        case c2 => simp [Value.oneCell']
        case c3 => unfold maxLen; omega
        case c4 => omega
        case c5 => simp; omega
        intro v5 w5 hown5 hgrow5 hv5
        have hbel5 : Below w.heap.size w w5 := (HB.out.alloc hsz _).grown hgrow5 (by simp; omega) (fun j hj => (HLT.out j hj).1)
        rw [← HEC.out, ← HEL.out] at hown5
        have HO5 := Lib.hid hown5
        have HB5 := Lib.hid hbel5
        clear hown5 hgrow5 hv5 hbel5
        go_wp2
        go_roundw
        case rel => exact ⟨k + 1, by go_num, by omega, by rw [HD.out], HO5.out, HB5.out⟩
        case measure => simp [intOf]; omega
      · obtain ⟨e1, e2, e3⟩ := outT_same (f := f) HR.out HXX.out hq
        have b1 : Op.bytesLess (str x.1).toList (str n).toList = false := by rw [toList_str, toList_str]; exact (by rw [hq]; exact nlt_irrefl n)
        have b2 : Op.bytesLess (str n).toList (str x.1).toList = false := by rw [toList_str, toList_str]; exact (by rw [hq]; exact nlt_irrefl n)
        have b3 : ((str x.1).toList == (str n).toList) = true := by rw [toList_str, toList_str]; simpa using hq
        have b4 : ((str n).toList == (str x.1).toList) = true := by rw [toList_str, toList_str]; simpa using hq.symm
        have HEC := Lib.hid (show cellsT (outT t n f (k + 1)) = cellsT (outT t n f k) ++ [strV n, .int .i64 f] by rw [e1, cellsT_append]; rfl)
        have HEL := Lib.hid (show (outT t n f (k + 1)).length = (outT t n f k).length + 1 by rw [e1]; simp)
        have HD := Lib.hid e3
        rw [e2]
        clear hq e1 e2 e3
        generalize outT t n f k = q at *
        go_wp2_with (at_builtin; refine wpList_append_own _ rfl _ _ 116 rfl w.heap.size 164 i0 (.agg #[strV [], .int .i64 0]) 2 24 Tryz.underlying116 hi hz0 hz1 hz2 rfl (by omega) _ q.length (cellsT q) rfl (hown.alloc _) ⟨wr.heap.size, 0, none⟩ 1 1 [strV n, .int .i64 f] rfl rfl ?c1 ?c2 ?c3 ?c4 ?c5 ?_)
        case c1 => exact World.news_of_block (cs := #[strV n, .int .i64 f]) (t := 164) (fr := (0, 0)) (heap_alloc_new wr _)
        case c2 => simp [Value.oneCell']
        case c3 => unfold maxLen; omega
        case c4 => omega
        case c5 => simp; omega
        intro v5 w5 hown5 hgrow5 hv5
        have hbel5 : Below w.heap.size w w5 := (HB.out.alloc hsz _).grown hgrow5 (by simp; omega) (fun j hj => (HLT.out j hj).1)
        obtain ⟨_, _, hwe, hrx⟩ := HT.out.below hbel5
        simp only [Value.slice.injEq] at hwe
        obtain ⟨rfl, -, rfl⟩ := hwe
        obtain ⟨b', off', heq, c0, c1⟩ := hrx k x HXX.out
        cases heq
        clear hrx
        rw [← HEC.out, ← HEL.out] at hown5
        have HO5 := Lib.hid hown5
        have HB5 := Lib.hid hbel5
        clear hown5 hgrow5 hv5 hbel5
        go_wp2
        go_roundw
        case rel => exact ⟨k + 1, by go_num, by omega, by rw [HD.out], HO5.out, HB5.out⟩
        case measure => simp [intOf]; omega
      · cases hd : tdk t n k with
        | false =>
          obtain ⟨e1, e3⟩ := outT_first (f := f) HXX.out hq hd
          have b1 : Op.bytesLess (str x.1).toList (str n).toList = false := by rw [toList_str, toList_str]; exact nlt_asymm hq
          have b2 : Op.bytesLess (str n).toList (str x.1).toList = true := by rw [toList_str, toList_str]; exact hq
          have b3 : ((str x.1).toList == (str n).toList) = false := by rw [toList_str, toList_str]; simpa using (nlt_ne hq).symm
          have b4 : ((str n).toList == (str x.1).toList) = false := by rw [toList_str, toList_str]; simpa using nlt_ne hq
          have HEC := Lib.hid (show cellsT (outT t n f (k + 1)) = cellsT (outT t n f k ++ [(n, f)]) ++ [strV x.1, .int .i64 (x.2 : Nat)] by rw [e1, cellsT_append (outT t n f k ++ [(n, f)])]; rfl)
          have HEL := Lib.hid (show (outT t n f (k + 1)).length = (outT t n f k ++ [(n, f)]).length + 1 by rw [e1]; simp)
          have HEC0 := Lib.hid (show cellsT (outT t n f k ++ [(n, f)]) = cellsT (outT t n f k) ++ [strV n, .int .i64 f] by rw [cellsT_append]; rfl)
          have HEL0 := Lib.hid (show (outT t n f k ++ [(n, f)]).length = (outT t n f k).length + 1 by simp)
          have hol2 : (outT t n f k ++ [(n, f)]).length ≤ 2 * t.length + 2 := by simp; omega
          have HD := Lib.hid e3
          clear hq e1 e3 hd
          generalize outT t n f k ++ [(n, f)] = q2 at *
          generalize outT t n f k = q at *
          go_wp2_with (at_builtin; refine wpList_append_own _ rfl _ _ 116 rfl w.heap.size 164 i0 (.agg #[strV [], .int .i64 0]) 2 24 Tryz.underlying116 hi hz0 hz1 hz2 rfl (by omega) _ q.length (cellsT q) rfl (hown.alloc _) ⟨wr.heap.size, 0, none⟩ 1 1 [strV n, .int .i64 f] rfl rfl ?c1 ?c2 ?c3 ?c4 ?c5 ?_)
          case c1 => exact World.news_of_block (cs := #[strV n, .int .i64 f]) (t := 164) (fr := (0, 0)) (heap_alloc_new wr _)
          case c2 => simp [Value.oneCell']
          case c3 => unfold maxLen; omega
          case c4 => omega
          case c5 => simp; omega
          intro v5 w5 hown5 hgrow5 hv5
          have hbel5 : Below w.heap.size w w5 := (HB.out.alloc hsz _).grown hgrow5 (by simp; omega) (fun j hj => (HLT.out j hj).1)
          rw [← HEC0.out, ← HEL0.out] at hown5
          have HB5 := Lib.hid hbel5
          have hsz5 := hbel5.size
          have HLT5 := Lib.hid hown5.lt
          obtain ⟨_, _, hwe, hrx⟩ := HT.out.below hbel5
          simp only [Value.slice.injEq] at hwe
          obtain ⟨rfl, -, rfl⟩ := hwe
          obtain ⟨b', off', heq, c0, c1⟩ := hrx k x HXX.out
          cases heq
          clear hgrow5 hv5 hbel5 hrx
          go_wp2_with (at_builtin; refine wpList_append_own _ rfl _ _ 116 rfl w.heap.size 164 i0 (.agg #[strV [], .int .i64 0]) 2 24 Tryz.underlying116 hi hz0 hz1 hz2 rfl (by omega) _ q2.length (cellsT q2) rfl (hown5.alloc _) ⟨w5.heap.size, 0, none⟩ 1 1 [strV x.1, .int .i64 (x.2 : Nat)] rfl rfl ?c1 ?c2 ?c3 ?c4 ?c5 ?_)
          case c1 => exact World.news_of_block (cs := #[strV x.1, .int .i64 (x.2 : Nat)]) (t := 164) (fr := (0, 0)) (heap_alloc_new w5 _)
          case c2 => simp [Value.oneCell']
          case c3 => unfold maxLen; omega
          case c4 => omega
          case c5 => simp; omega
          intro v6 w6 hown6 hgrow6 hv6
          have hbel6 : Below w.heap.size w w6 := (HB5.out.alloc hsz5 _).grown hgrow6 (by simp; omega) (fun j hj => (HLT5.out j hj).1)
          rw [← HEC.out, ← HEL.out] at hown6
          have HO5 := Lib.hid hown6
          have HB5 := Lib.hid hbel6
          clear hown6 hgrow6 hv6 hbel6
          go_wp2
          go_roundw
          case rel => exact ⟨k + 1, by go_num, by omega, by rw [HD.out], HO5.out, HB5.out⟩
          case measure => simp [intOf]; omega
        | true =>
          obtain ⟨e1, e3⟩ := outT_high (f := f) HXX.out hq hd
          have b1 : Op.bytesLess (str x.1).toList (str n).toList = false := by rw [toList_str, toList_str]; exact nlt_asymm hq
          have b2 : Op.bytesLess (str n).toList (str x.1).toList = true := by rw [toList_str, toList_str]; exact hq
          have b3 : ((str x.1).toList == (str n).toList) = false := by rw [toList_str, toList_str]; simpa using (nlt_ne hq).symm
          have b4 : ((str n).toList == (str x.1).toList) = false := by rw [toList_str, toList_str]; simpa using nlt_ne hq
          have HEC := Lib.hid (show cellsT (outT t n f (k + 1)) = cellsT (outT t n f k) ++ [strV x.1, .int .i64 (x.2 : Nat)] by rw [e1, cellsT_append]; rfl)
          have HEL := Lib.hid (show (outT t n f (k + 1)).length = (outT t n f k).length + 1 by rw [e1]; simp)
          have HD := Lib.hid e3
          clear hq e1 e3 hd
          generalize outT t n f k = q at *
          go_wp2_with (at_builtin; refine wpList_append_own _ rfl _ _ 116 rfl w.heap.size 164 i0 (.agg #[strV [], .int .i64 0]) 2 24 Tryz.underlying116 hi hz0 hz1 hz2 rfl (by omega) _ q.length (cellsT q) rfl (hown.alloc _) ⟨wr.heap.size, 0, none⟩ 1 1 [strV x.1, .int .i64 (x.2 : Nat)] rfl rfl ?c1 ?c2 ?c3 ?c4 ?c5 ?_)
          case c1 => exact World.news_of_block (cs := #[strV x.1, .int .i64 (x.2 : Nat)]) (t := 164) (fr := (0, 0)) (heap_alloc_new wr _)
          case c2 => simp [Value.oneCell']
          case c3 => unfold maxLen; omega
          case c4 => omega
          case c5 => simp; omega
          intro v5 w5 hown5 hgrow5 hv5
          have hbel5 : Below w.heap.size w w5 := (HB.out.alloc hsz _).grown hgrow5 (by simp; omega) (fun j hj => (HLT.out j hj).1)
          rw [← HEC.out, ← HEL.out] at hown5
          have HO5 := Lib.hid hown5
          have HB5 := Lib.hid hbel5
          clear hown5 hgrow5 hv5 hbel5
          go_wp2
          go_roundw
          case rel => exact ⟨k + 1, by go_num, by omega, by rw [HD.out], HO5.out, HB5.out⟩
          case measure => simp [intOf]; omega
    · obtain rfl : k = t.length := by omega
      have hall := outT_all t n f
      have HB := Lib.hid hbel
      have HLT := Lib.hid hown.lt
      cases hd : tdk t n t.length with
      | true =>
        rw [hd, if_pos rfl, List.append_nil] at hall
        rw [← hall] at hown
        have HO := Lib.hid hown
        clear hown hbel hall hd
        go_wp2
        go_ret
        exact ⟨_, rfl, HO.out, HB.out⟩
      | false =>
        rw [hd, if_neg (by simp)] at hall
        have HEC := Lib.hid (show cellsT (tins t n f) = cellsT (outT t n f t.length) ++ [strV n, .int .i64 f] by rw [hall, cellsT_append]; rfl)
        have HEL := Lib.hid (show (tins t n f).length = (outT t n f t.length).length + 1 by rw [hall]; simp)
        clear hall hd hbel
        generalize outT t n f t.length = q at *
        go_wp2_with (at_builtin; refine wpList_append_own _ rfl _ _ 116 rfl w.heap.size 164 i0 (.agg #[strV [], .int .i64 0]) 2 24 Tryz.underlying116 hi hz0 hz1 hz2 rfl (by omega) _ q.length (cellsT q) rfl (hown.alloc _) ⟨wr.heap.size, 0, none⟩ 1 1 [strV n, .int .i64 f] rfl rfl ?c1 ?c2 ?c3 ?c4 ?c5 ?_)
        case c1 => exact World.news_of_block (cs := #[strV n, .int .i64 f]) (t := 164) (fr := (0, 0)) (heap_alloc_new wr _)
        case c2 => simp [Value.oneCell']
        case c3 => unfold maxLen; omega
        case c4 => omega
        case c5 => simp; omega
        intro v5 w5 hown5 hgrow5 hv5
        have hbel5 : Below w.heap.size w w5 := (HB.out.alloc hsz _).grown hgrow5 (by simp; omega) (fun j hj => (HLT.out j hj).1)
        rw [← HEC.out, ← HEL.out] at hown5
        have HO5 := Lib.hid hown5
        have HB5 := Lib.hid hbel5
        clear hown5 hgrow5 hv5 hbel5
        go_wp2
        go_ret
        exact ⟨_, rfl, HO5.out, HB5.out⟩
end Go.Proofs.YtfgpigblnkanpaaGreatDoor

namespace Go.Proofs.YtfgpigblnkanpaaGreatDoor
open Go.RowKit Go.Maps Go.Shelf
set_option linter.unusedVariables false

set_option maxRecDepth 100000 in
theorem rRight_any (w : World) (n : Nm) (hn : n.length ≤ 140737488355328) : Calls Tryz.prog 147 #[strV n] w fun e w' => e = .returned (.bool (!badName n)) ∧ w = w' := by
  have hsz := str_size n
  by_cases h1 : 1 ≤ n.length
  · by_cases h2 : n.length ≤ 200
    · have hb : (!badName n) = true := by
        unfold badName
        cases n with
        | nil => simp at h1
        | cons a l => simp at h2 ⊢; omega
      rw [hb]
      have k1 : (1 : Int) ≤ (n.length : Int) := by omega
      have k2 : (n.length : Int) ≤ 200 := by omega
      clear hb h1 h2
      go_enter Tryz.func147, Tryz.ntmps147
      go_wp2
      go_ret
      exact ⟨rfl, rfl⟩
    · have hb : (!badName n) = false := by unfold badName; simp; omega
      rw [hb]
      have k1 : (1 : Int) ≤ (n.length : Int) := by omega
      have k2 : ¬ (n.length : Int) ≤ 200 := by omega
      clear hb h1 h2
      go_enter Tryz.func147, Tryz.ntmps147
      go_wp2
      go_ret
      exact ⟨rfl, rfl⟩
  · have hb : (!badName n) = false := by
      unfold badName
      cases n with
      | nil => rfl
      | cons a l => simp at h1
    rw [hb]
    have k1 : ¬ (1 : Int) ≤ (n.length : Int) := by omega
    clear hb h1
    go_enter Tryz.func147, Tryz.ntmps147
    go_wp2
    go_ret
    exact ⟨rfl, rfl⟩
/-- An operation on names, as the document keeps it. -/
def opCells : Pn → List Value
  | .cr n f => [.int .i64 1, strV [], strV n, .int .i64 (f : Nat)]
  | .rn o n => [.int .i64 4, strV o, strV n, .int .i64 0]
  | .rm n => [.int .i64 5, strV [], strV n, .int .i64 0]
def pnSmall : Pn → Prop
  | .cr n f => f ≤ 9223372036854775807
  | _ => True
/-- A table that is handed back: the one that was given, or a new one. -/
def TabTo (w : World) (v : Value) (t' : Tb) (e : Ending) (w' : World) : Prop := ∃ v', e = .returned v' ∧ TabAt w' v' t' ∧ (∀ b, v'.ownBlock = some b → (w.heap.size ≤ b ∧ b < w'.heap.size) ∨ v.ownBlock = some b) ∧ Below w.heap.size w w'
set_option maxHeartbeats 4000000 in
set_option maxRecDepth 100000 in
theorem rDone_any (w : World) (v : Value) (t : Tb) (p : Pn) (h : TabAt w v t) (hr : Rise t) (hl : t.length ≤ 2147483648) (hp : pnSmall p) (hf : ∀ x ∈ t, x.2 ≤ 9223372036854775807) : Calls Tryz.prog 122 #[v, .agg (opCells p).toArray] w (TabTo w v (tdone t p)) := by
  have hS : Below w.heap.size w (w.alloc (.cells (opCells p).toArray 122)) := (Below.refl _ w).alloc (Nat.le_refl _) _
  have hbx := Blk.new w (opCells p) 122
  have y0 := hbx.cell 0
  have y1 := hbx.cell 1
  have y2 := hbx.cell 2
  have y3 := hbx.cell 3
  have hlt := hbx.lt
  have HS := Lib.hid hS
  have HT := Lib.hid (h.below hS)
  have HV := Lib.hid h
  obtain ⟨a, c, rfl, -⟩ := h
  cases p with
  | cr n f =>
    unfold opCells at *
    simp only [List.getElem?_cons_zero, List.getElem?_cons_succ] at y0 y1 y2 y3
    have HW := Lib.hid (rWith_any _ _ t n f HT.out hr (by omega) hp)
    clear hr hbx hS
    go_enter Tryz.func122, Tryz.ntmps122
    go_wp2_with (fail)
    refine HW.out.mono ?_
    rintro e w1 ⟨v', rfl, hrow, hb1⟩
    have hres : TabTo w (.slice a t.length c) (tdone t (.cr n f)) (.returned v') w1 := ⟨v', rfl, TabAt.of_row hrow, fun b hb => Or.inl ⟨by have := (hrow.lt b hb).1; simp at this; omega, (hrow.lt b hb).2⟩, HS.out.trans (hb1.mono (by simp))⟩
    have HRES := Lib.hid hres
    clear hrow hb1 hres
    go_wp2
    go_ret
    exact HRES.out
  | rm n =>
    unfold opCells at *
    simp only [List.getElem?_cons_zero, List.getElem?_cons_succ] at y0 y1 y2 y3
    have HW := Lib.hid (rWithout_any _ _ t n HT.out (by omega))
    clear hr hbx hS
    go_enter Tryz.func122, Tryz.ntmps122
    go_wp2_with (fail)
    refine HW.out.mono ?_
    rintro e w1 ⟨v', rfl, hrow, hb1⟩
    have hres : TabTo w (.slice a t.length c) (tdone t (.rm n)) (.returned v') w1 := ⟨v', rfl, TabAt.of_row hrow, fun b hb => Or.inl ⟨by have := (hrow.lt b hb).1; simp at this; omega, (hrow.lt b hb).2⟩, HS.out.trans (hb1.mono (by simp))⟩
    have HRES := Lib.hid hres
    clear hrow hb1 hres
    go_wp2
    go_ret
    exact HRES.out
  | rn o n =>
    unfold opCells at *
    simp only [List.getElem?_cons_zero, List.getElem?_cons_succ] at y0 y1 y2 y3
    have HW := Lib.hid (rAt_any _ _ t o HT.out (by omega))
    have HR := Lib.hid hr
    clear hr hbx hS
    go_enter Tryz.func122, Tryz.ntmps122
    go_wp2_with (fail)
    refine HW.out.mono ?_
    rintro e w1 ⟨p, rfl, hat, rfl⟩
    rcases hat with ⟨rfl, hno⟩ | ⟨k, f, rfl, htk, hget⟩
    · have hres : TabTo w (.slice a t.length c) (tdone t (.rn o n)) (.returned (.slice a t.length c)) (w.alloc (.cells #[.int .i64 4, strV o, strV n, .int .i64 0] 122)) := ⟨_, rfl, by simp only [tdone, hno]; exact HT.out, fun b hb => Or.inr hb, HS.out⟩
      have HRES := Lib.hid hres
      clear hres hno
      go_wp2
      go_ret
      exact HRES.out
    · obtain ⟨_, _, hwe, hrx⟩ := HT.out
      simp only [Value.slice.injEq] at hwe
      obtain ⟨rfl, -, rfl⟩ := hwe
      obtain ⟨b, off, rfl, c0, c1⟩ := hrx k _ htk
      have hkl := (List.getElem?_eq_some_iff.1 htk).1
      have ik0 : (0 : Int) ≤ (k : Int) := by omega
      have ik1 : (k : Int) < (t.length : Int) := by omega
      have ik2 : ¬ (k : Int) < 0 := by omega
      have hfl := hf _ (List.mem_of_getElem? htk)
      by_cases hon : o = n
      · subst hon
        have hb3 : ((str o).toList == (str o).toList) = true := by simp
        have hres : TabTo w (.slice (some ⟨b, off, none⟩) t.length c) (tdone t (.rn o o)) (.returned (.slice (some ⟨b, off, none⟩) t.length c)) (w.alloc (.cells #[.int .i64 4, strV o, strV o, .int .i64 0] 122)) := ⟨_, rfl, by simp only [tdone, hget]; rw [tins_same HR.out hget]; exact HT.out, fun b hb => Or.inr hb, HS.out⟩
        have HRES := Lib.hid hres
        clear hres hget hrx htk
        go_wp2
        go_ret
        exact HRES.out
      · have hb3 : ((str o).toList == (str n).toList) = false := by rw [toList_str, toList_str]; simpa using hon
        have HO := Lib.hid fun W (hb : Below (w.alloc (.cells #[.int .i64 4, strV o, strV n, .int .i64 0] 122)).heap.size (w.alloc (.cells #[.int .i64 4, strV o, strV n, .int .i64 0] 122)) W) => rWithout_any W _ t o (HT.out.below hb) (by omega)
        have HG := Lib.hid hget
        clear hget hrx htk hon
        go_upto_region 10 with (fail)
        go_region_with (first
          | (go_at_call 149; refine (HO.out _ (Below.refl _ _).drew).mono ?_; rintro e w1 ⟨v1, rfl, hrow1, hb1⟩; have k2 := (hb1.cell (p := ⟨w.heap.size, 2, none⟩) hlt).trans y2)
          | (go_at_call 148; refine (rWith_any _ _ (tout t o) n f (TabAt.of_row hrow1) (HR.out.out o) (by have := List.length_filter_le (fun x => x.1 != o) t; unfold tout; omega) hfl).mono ?_; rintro e w2 ⟨v2, rfl, hrow2, hb2⟩))
        all_goals
          have hb3 := below_undrew hb1
          have hb4 : Below w.heap.size w w2 := (HS.out.trans (hb3.mono (by simp))).trans (hb2.mono (by have := hb3.size; simp at this; omega))
          have hres : TabTo w (.slice (some ⟨b, off, none⟩) t.length c) (tdone t (.rn o n)) (.returned v2) w2 := ⟨v2, rfl, by simp only [tdone, HG.out]; exact TabAt.of_row hrow2, fun b hb => Or.inl ⟨by have h1 := (hrow2.lt b hb).1; have h2 := hb3.size; simp at h2; omega, (hrow2.lt b hb).2⟩, hb4⟩
          have HRES := Lib.hid hres
          clear hrow1 hb1 hrow2 hb2 hb3 hb4 hres
          go_wp2
          go_ret
          exact HRES.out
end Go.Proofs.YtfgpigblnkanpaaGreatDoor
