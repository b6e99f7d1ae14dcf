/- The document's disk: with. -/
import Derived.Test.YtfgpigblnkanpaaGreatDoorRa
namespace Go.Proofs.YtfgpigblnkanpaaGreatDoor
open Go.RowKit Go.Maps Go.Shelf
set_option linter.unusedVariables false

/-- While with goes on: what is laid of the first k. -/
def tdk (t : Tb) (n : Nm) (k : Nat) : Bool := (t.take k).any fun y => !nlt y.1 n
def outT (t : Tb) (n : Nm) (f k : Nat) : Tb := ((t.take k).filter fun x => nlt x.1 n) ++ if tdk t n k = true then (n, f) :: (t.take k).filter fun x => nlt n x.1 else []
theorem outT_len (t : Tb) (n : Nm) (f k : Nat) : (outT t n f k).length ≤ 2 * t.length + 1 := by
  unfold outT
  have h1 : ((t.take k).filter fun x => nlt x.1 n).length ≤ (t.take k).length := List.length_filter_le _ _
  have h2 : ((t.take k).filter fun x => nlt n x.1).length ≤ (t.take k).length := List.length_filter_le _ _
  rw [List.length_take] at h1 h2
  rw [List.length_append]
  split <;> simp only [List.length_cons, List.length_nil] <;> omega
theorem rise_before {t : Tb} (hr : Rise t) {k j : Nat} {x y : Nm × Nat} (hx : t[k]? = some x) (hy : t[j]? = some y) (h : j < k) : nlt y.1 x.1 = true := by
  obtain ⟨hj, rfl⟩ := List.getElem?_eq_some_iff.1 hy
  obtain ⟨hk, rfl⟩ := List.getElem?_eq_some_iff.1 hx
  exact List.pairwise_iff_getElem.1 hr j k hj hk h
theorem tdk_false {t : Tb} (hr : Rise t) {n : Nm} {k : Nat} {x : Nm × Nat} (hx : t[k]? = some x) (h : nlt n x.1 = false) : tdk t n k = false := by
  unfold tdk
  rw [List.any_eq_false]
  intro y hy
  obtain ⟨j, hj, e⟩ := List.getElem_of_mem hy
  rw [List.length_take] at hj
  have hjt : t[j]? = some y := by
    rw [List.getElem_take] at e
    rw [List.getElem?_eq_getElem (by omega), e]
  have h1 := rise_before hr hx hjt (by omega)
  rcases nlt_tri x.1 n with h2 | h2 | h2
  · simp [nlt_trans h1 h2]
  · rw [← h2]; simp [h1]
  · rw [h2] at h; cases h
theorem none_above {t : Tb} {n : Nm} {k : Nat} (h : tdk t n k = false) : ((t.take k).filter fun x => nlt n x.1) = [] := by
  rw [List.filter_eq_nil_iff]
  intro y hy
  unfold tdk at h
  rw [List.any_eq_false] at h
  have := h y hy
  simp at this
  simp [nlt_asymm this]
theorem tdk_succ {t : Tb} {n : Nm} {k : Nat} {x : Nm × Nat} (hx : t[k]? = some x) : tdk t n (k + 1) = (tdk t n k || !nlt x.1 n) := by
  unfold tdk
  rw [List.take_add_one, hx]
  simp
theorem outT_low {t : Tb} (hr : Rise t) {n : Nm} {f k : Nat} {x : Nm × Nat} (hx : t[k]? = some x) (h : nlt x.1 n = true) : outT t n f (k + 1) = outT t n f k ++ [x] ∧ tdk t n k = false ∧ tdk t n (k + 1) = false := by
  have h1 := tdk_false hr hx (nlt_asymm h)
  have h2 : tdk t n (k + 1) = false := by rw [tdk_succ hx, h1, h]; rfl
  refine ⟨?_, h1, h2⟩
  unfold outT
  rw [h1, h2, List.take_add_one, hx]
  simp [h]
theorem outT_same {t : Tb} (hr : Rise t) {n : Nm} {f k : Nat} {x : Nm × Nat} (hx : t[k]? = some x) (h : x.1 = n) : outT t n f (k + 1) = outT t n f k ++ [(n, f)] ∧ tdk t n k = false ∧ tdk t n (k + 1) = true := by
  have h1 := tdk_false (n := n) hr hx (by rw [h, nlt_irrefl])
  have h2 : tdk t n (k + 1) = true := by rw [tdk_succ hx, h1, h, nlt_irrefl]; rfl
  refine ⟨?_, h1, h2⟩
  have h3 := none_above h1
  unfold outT
  rw [h1, h2, List.take_add_one, hx]
  simp only [Option.toList_some, List.filter_append, h3]
  simp [h, nlt_irrefl]
theorem outT_first {t : Tb} {n : Nm} {f k : Nat} {x : Nm × Nat} (hx : t[k]? = some x) (h : nlt n x.1 = true) (hd : tdk t n k = false) : outT t n f (k + 1) = outT t n f k ++ [(n, f)] ++ [x] ∧ tdk t n (k + 1) = true := by
  have h2 : tdk t n (k + 1) = true := by rw [tdk_succ hx, hd, nlt_asymm h]; rfl
  refine ⟨?_, h2⟩
  have h3 := none_above hd
  unfold outT
  rw [hd, h2, List.take_add_one, hx]
  simp only [Option.toList_some, List.filter_append, h3]
  simp [h, nlt_asymm h]
theorem outT_high {t : Tb} {n : Nm} {f k : Nat} {x : Nm × Nat} (hx : t[k]? = some x) (h : nlt n x.1 = true) (hd : tdk t n k = true) : outT t n f (k + 1) = outT t n f k ++ [x] ∧ tdk t n (k + 1) = true := by
  have h2 : tdk t n (k + 1) = true := by rw [tdk_succ hx, hd]; rfl
  refine ⟨?_, h2⟩
  unfold outT
  rw [hd, h2, List.take_add_one, hx]
  simp [h, nlt_asymm h]
theorem outT_all (t : Tb) (n : Nm) (f : Nat) : tins t n f = outT t n f t.length ++ if tdk t n t.length = true then [] else [(n, f)] := by
  by_cases hd : tdk t n t.length = true
  · unfold outT tins
    rw [if_pos hd, if_pos hd, List.take_length]
    simp
  · have hd' : tdk t n t.length = false := by simpa using hd
    have h3 := none_above hd'
    rw [List.take_length] at h3
    unfold outT tins
    rw [if_neg hd, if_neg hd, List.take_length, h3]
    simp
set_option maxHeartbeats 8000000 in
set_option maxRecDepth 100000 in
theorem rWith_any (w : World) (v : Value) (t : Tb) (n : Nm) (f : Nat) (h : TabAt w v t) (hr : Rise t) (hl : t.length ≤ 4294967296) (hfn : f ≤ 9223372036854775807) : Calls Tryz.prog 148 #[v, strV n, .int .i64 f] w fun e w' => ∃ v', e = .returned v' ∧ w'.ownsRow w.heap.size 164 2 v' (tins t n f).length (cellsT (tins t n f)) ∧ Below w.heap.size w w' := by
  obtain ⟨i0, hi, hz0, hz1, hz2⟩ := info_parts infoLink
  have HT := Lib.hid h
  have HR := Lib.hid hr
  obtain ⟨a, c, rfl, -⟩ := h
  clear hr
  go_enter Tryz.func148, Tryz.ntmps148
  go_wp2_with (fail)
  go_loopw [7, 8, 9] (fun u dv iv wr => ∃ k : Nat, iv = .int .i64 k ∧ k ≤ t.length ∧ dv = .bool (tdk t n k) ∧ wr.ownsRow w.heap.size 164 2 u (outT t n f k).length (cellsT (outT t n f k)) ∧ Below w.heap.size w wr) (fun _ _ iv _ => t.length - (intOf iv).toNat)
  case atStart => exact ⟨0, rfl, Nat.zero_le _, rfl, World.ownsRow_nil _ _ _ _, Below.refl _ _⟩
  case round =>
    obtain ⟨k, rfl, hk, rfl, hown, hbel⟩ := hrel
    have hsz := hbel.size
    have hol := outT_len t n f k
    by_cases hlt : k < t.length
    · obtain ⟨x, hx⟩ : ∃ x, t[k]? = some x := ⟨_, List.getElem?_eq_getElem hlt⟩
      obtain ⟨_, _, hwe, hrx⟩ := HT.out.below hbel
      simp only [Value.slice.injEq] at hwe
      obtain ⟨rfl, -, rfl⟩ := hwe
      obtain ⟨b, off, rfl, c0, c1⟩ := hrx k x hx
      have ik0 : (0 : Int) ≤ (k : Int) := by omega
      have ik1 : (k : Int) < (t.length : Int) := by omega
      have HB := Lib.hid hbel
      have HLT := Lib.hid hown.lt
      have HXX := Lib.hid hx
      clear hrx hbel hx
      rcases nlt_tri x.1 n with hq | hq | hq
      · obtain ⟨e1, e2, e3⟩ := outT_low (f := f) HR.out HXX.out hq
        have b1 : Op.bytesLess (str x.1).toList (str n).toList = true := by rw [toList_str, toList_str]; exact hq
        have b2 : Op.bytesLess (str n).toList (str x.1).toList = false := by rw [toList_str, toList_str]; exact nlt_asymm hq
        have b3 : ((str x.1).toList == (str n).toList) = false := by rw [toList_str, toList_str]; simpa using nlt_ne hq
        have b4 : ((str n).toList == (str x.1).toList) = false := by rw [toList_str, toList_str]; simpa using (nlt_ne hq).symm
        have HEC := Lib.hid (show cellsT (outT t n f (k + 1)) = cellsT (outT t n f k) ++ [strV x.1, .int .i64 (x.2 : Nat)] by rw [e1, cellsT_append]; rfl)
        have HEL := Lib.hid (show (outT t n f (k + 1)).length = (outT t n f k).length + 1 by rw [e1]; simp)
        have HD := Lib.hid e3
        rw [e2]
        clear hq e1 e2 e3
        generalize outT t n f k = q at *
        go_wp2_with (at_builtin; refine wpList_append_own _ rfl _ _ 116 rfl w.heap.size 164 i0 (.agg #[strV [], .int .i64 0]) 2 24 Tryz.underlying116 hi hz0 hz1 hz2 rfl (by omega) _ q.length (cellsT q) rfl (hown.alloc _) ⟨wr.heap.size, 0, none⟩ 1 1 [strV x.1, .int .i64 (x.2 : Nat)] rfl rfl ?c1 ?c2 ?c3 ?c4 ?c5 ?_)
        case c1 => exact World.news_of_block (cs := #[strV x.1, .int .i64 (x.2 : Nat)]) (t := 164) (fr := (0, 0)) (heap_alloc_new wr _)
        case c2 => simp [Value.oneCell']
        case c3 => unfold maxLen; omega
        case c4 => omega
        case c5 => simp; omega
        intro v5 w5 hown5 hgrow5 hv5
        have hbel5 : Below w.heap.size w w5 := (HB.out.alloc hsz _).grown hgrow5 (by simp; omega) (fun j hj => (HLT.out j hj).1)
        rw [← HEC.out, ← HEL.out] at hown5
        have HO5 := Lib.hid hown5
        have HB5 := Lib.hid hbel5
        clear hown5 hgrow5 hv5 hbel5
        go_wp2
        go_roundw
        case rel => exact ⟨k + 1, by go_num, by omega, by rw [HD.out], HO5.out, HB5.out⟩
        case measure => simp [intOf]; omega
      · obtain ⟨e1, e2, e3⟩ := outT_same (f := f) HR.out HXX.out hq
        have b1 : Op.bytesLess (str x.1).toList (str n).toList = false := by rw [toList_str, toList_str]; exact (by rw [hq]; exact nlt_irrefl n)
        have b2 : Op.bytesLess (str n).toList (str x.1).toList = false := by rw [toList_str, toList_str]; exact (by rw [hq]; exact nlt_irrefl n)
        have b3 : ((str x.1).toList == (str n).toList) = true := by rw [toList_str, toList_str]; simpa using hq
        have b4 : ((str n).toList == (str x.1).toList) = true := by rw [toList_str, toList_str]; simpa using hq.symm
        have HEC := Lib.hid (show cellsT (outT t n f (k + 1)) = cellsT (outT t n f k) ++ [strV n, .int .i64 f] by rw [e1, cellsT_append]; rfl)
        have HEL := Lib.hid (show (outT t n f (k + 1)).length = (outT t n f k).length + 1 by rw [e1]; simp)
        have HD := Lib.hid e3
        rw [e2]
        clear hq e1 e2 e3
        generalize outT t n f k = q at *
        go_wp2_with (at_builtin; refine wpList_append_own _ rfl _ _ 116 rfl w.heap.size 164 i0 (.agg #[strV [], .int .i64 0]) 2 24 Tryz.underlying116 hi hz0 hz1 hz2 rfl (by omega) _ q.length (cellsT q) rfl (hown.alloc _) ⟨wr.heap.size, 0, none⟩ 1 1 [strV n, .int .i64 f] rfl rfl ?c1 ?c2 ?c3 ?c4 ?c5 ?_)
        case c1 => exact World.news_of_block (cs := #[strV n, .int .i64 f]) (t := 164) (fr := (0, 0)) (heap_alloc_new wr _)
        case c2 => simp [Value.oneCell']
        case c3 => unfold maxLen; omega
        case c4 => omega
        case c5 => simp; omega
        intro v5 w5 hown5 hgrow5 hv5
        have hbel5 : Below w.heap.size w w5 := (HB.out.alloc hsz _).grown hgrow5 (by simp; omega) (fun j hj => (HLT.out j hj).1)
        obtain ⟨_, _, hwe, hrx⟩ := HT.out.below hbel5
        simp only [Value.slice.injEq] at hwe
        obtain ⟨rfl, -, rfl⟩ := hwe
        obtain ⟨b', off', heq, c0, c1⟩ := hrx k x HXX.out
        cases heq
        clear hrx
        rw [← HEC.out, ← HEL.out] at hown5
        have HO5 := Lib.hid hown5
        have HB5 := Lib.hid hbel5
        clear hown5 hgrow5 hv5 hbel5
        go_wp2
        go_roundw
        case rel => exact ⟨k + 1, by go_num, by omega, by rw [HD.out], HO5.out, HB5.out⟩
        case measure => simp [intOf]; omega
      · cases hd : tdk t n k with
        | false =>
          obtain ⟨e1, e3⟩ := outT_first (f := f) HXX.out hq hd
          have b1 : Op.bytesLess (str x.1).toList (str n).toList = false := by rw [toList_str, toList_str]; exact nlt_asymm hq
          have b2 : Op.bytesLess (str n).toList (str x.1).toList = true := by rw [toList_str, toList_str]; exact hq
          have b3 : ((str x.1).toList == (str n).toList) = false := by rw [toList_str, toList_str]; simpa using (nlt_ne hq).symm
          have b4 : ((str n).toList == (str x.1).toList) = false := by rw [toList_str, toList_str]; simpa using nlt_ne hq
          have HEC := Lib.hid (show cellsT (outT t n f (k + 1)) = cellsT (outT t n f k ++ [(n, f)]) ++ [strV x.1, .int .i64 (x.2 : Nat)] by rw [e1, cellsT_append (outT t n f k ++ [(n, f)])]; rfl)
          have HEL := Lib.hid (show (outT t n f (k + 1)).length = (outT t n f k ++ [(n, f)]).length + 1 by rw [e1]; simp)
          have HEC0 := Lib.hid (show cellsT (outT t n f k ++ [(n, f)]) = cellsT (outT t n f k) ++ [strV n, .int .i64 f] by rw [cellsT_append]; rfl)
          have HEL0 := Lib.hid (show (outT t n f k ++ [(n, f)]).length = (outT t n f k).length + 1 by simp)
          have hol2 : (outT t n f k ++ [(n, f)]).length ≤ 2 * t.length + 2 := by simp; omega
          have HD := Lib.hid e3
          clear hq e1 e3 hd
          generalize outT t n f k ++ [(n, f)] = q2 at *
          generalize outT t n f k = q at *
          go_wp2_with (at_builtin; refine wpList_append_own _ rfl _ _ 116 rfl w.heap.size 164 i0 (.agg #[strV [], .int .i64 0]) 2 24 Tryz.underlying116 hi hz0 hz1 hz2 rfl (by omega) _ q.length (cellsT q) rfl (hown.alloc _) ⟨wr.heap.size, 0, none⟩ 1 1 [strV n, .int .i64 f] rfl rfl ?c1 ?c2 ?c3 ?c4 ?c5 ?_)
          case c1 => exact World.news_of_block (cs := #[strV n, .int .i64 f]) (t := 164) (fr := (0, 0)) (heap_alloc_new wr _)
          case c2 => simp [Value.oneCell']
          case c3 => unfold maxLen; omega
          case c4 => omega
          case c5 => simp; omega
          intro v5 w5 hown5 hgrow5 hv5
          have hbel5 : Below w.heap.size w w5 := (HB.out.alloc hsz _).grown hgrow5 (by simp; omega) (fun j hj => (HLT.out j hj).1)
          rw [← HEC0.out, ← HEL0.out] at hown5
          have HB5 := Lib.hid hbel5
          have hsz5 := hbel5.size
          have HLT5 := Lib.hid hown5.lt
          obtain ⟨_, _, hwe, hrx⟩ := HT.out.below hbel5
          simp only [Value.slice.injEq] at hwe
          obtain ⟨rfl, -, rfl⟩ := hwe
          obtain ⟨b', off', heq, c0, c1⟩ := hrx k x HXX.out
          cases heq
          clear hgrow5 hv5 hbel5 hrx
          go_wp2_with (at_builtin; refine wpList_append_own _ rfl _ _ 116 rfl w.heap.size 164 i0 (.agg #[strV [], .int .i64 0]) 2 24 Tryz.underlying116 hi hz0 hz1 hz2 rfl (by omega) _ q2.length (cellsT q2) rfl (hown5.alloc _) ⟨w5.heap.size, 0, none⟩ 1 1 [strV x.1, .int .i64 (x.2 : Nat)] rfl rfl ?c1 ?c2 ?c3 ?c4 ?c5 ?_)
          case c1 => exact World.news_of_block (cs := #[strV x.1, .int .i64 (x.2 : Nat)]) (t := 164) (fr := (0, 0)) (heap_alloc_new w5 _)
          case c2 => simp [Value.oneCell']
          case c3 => unfold maxLen; omega
          case c4 => omega
          case c5 => simp; omega
          intro v6 w6 hown6 hgrow6 hv6
          have hbel6 : Below w.heap.size w w6 := (HB5.out.alloc hsz5 _).grown hgrow6 (by simp; omega) (fun j hj => (HLT5.out j hj).1)
          rw [← HEC.out, ← HEL.out] at hown6
          have HO5 := Lib.hid hown6
          have HB5 := Lib.hid hbel6
          clear hown6 hgrow6 hv6 hbel6
          go_wp2
          go_roundw
          case rel => exact ⟨k + 1, by go_num, by omega, by rw [HD.out], HO5.out, HB5.out⟩
          case measure => simp [intOf]; omega
        | true =>
          obtain ⟨e1, e3⟩ := outT_high (f := f) HXX.out hq hd
          have b1 : Op.bytesLess (str x.1).toList (str n).toList = false := by rw [toList_str, toList_str]; exact nlt_asymm hq
          have b2 : Op.bytesLess (str n).toList (str x.1).toList = true := by rw [toList_str, toList_str]; exact hq
          have b3 : ((str x.1).toList == (str n).toList) = false := by rw [toList_str, toList_str]; simpa using (nlt_ne hq).symm
          have b4 : ((str n).toList == (str x.1).toList) = false := by rw [toList_str, toList_str]; simpa using nlt_ne hq
          have HEC := Lib.hid (show cellsT (outT t n f (k + 1)) = cellsT (outT t n f k) ++ [strV x.1, .int .i64 (x.2 : Nat)] by rw [e1, cellsT_append]; rfl)
          have HEL := Lib.hid (show (outT t n f (k + 1)).length = (outT t n f k).length + 1 by rw [e1]; simp)
          have HD := Lib.hid e3
          clear hq e1 e3 hd
          generalize outT t n f k = q at *
          go_wp2_with (at_builtin; refine wpList_append_own _ rfl _ _ 116 rfl w.heap.size 164 i0 (.agg #[strV [], .int .i64 0]) 2 24 Tryz.underlying116 hi hz0 hz1 hz2 rfl (by omega) _ q.length (cellsT q) rfl (hown.alloc _) ⟨wr.heap.size, 0, none⟩ 1 1 [strV x.1, .int .i64 (x.2 : Nat)] rfl rfl ?c1 ?c2 ?c3 ?c4 ?c5 ?_)
          case c1 => exact World.news_of_block (cs := #[strV x.1, .int .i64 (x.2 : Nat)]) (t := 164) (fr := (0, 0)) (heap_alloc_new wr _)
          case c2 => simp [Value.oneCell']
          case c3 => unfold maxLen; omega
          case c4 => omega
          case c5 => simp; omega
          intro v5 w5 hown5 hgrow5 hv5
          have hbel5 : Below w.heap.size w w5 := (HB.out.alloc hsz _).grown hgrow5 (by simp; omega) (fun j hj => (HLT.out j hj).1)
          rw [← HEC.out, ← HEL.out] at hown5
          have HO5 := Lib.hid hown5
          have HB5 := Lib.hid hbel5
          clear hown5 hgrow5 hv5 hbel5
          go_wp2
          go_roundw
          case rel => exact ⟨k + 1, by go_num, by omega, by rw [HD.out], HO5.out, HB5.out⟩
          case measure => simp [intOf]; omega
    · obtain rfl : k = t.length := by omega
      have hall := outT_all t n f
      have HB := Lib.hid hbel
      have HLT := Lib.hid hown.lt
      cases hd : tdk t n t.length with
      | true =>
        rw [hd, if_pos rfl, List.append_nil] at hall
        rw [← hall] at hown
        have HO := Lib.hid hown
        clear hown hbel hall hd
        go_wp2
        go_ret
        exact ⟨_, rfl, HO.out, HB.out⟩
      | false =>
        rw [hd, if_neg (by simp)] at hall
        have HEC := Lib.hid (show cellsT (tins t n f) = cellsT (outT t n f t.length) ++ [strV n, .int .i64 f] by rw [hall, cellsT_append]; rfl)
        have HEL := Lib.hid (show (tins t n f).length = (outT t n f t.length).length + 1 by rw [hall]; simp)
        clear hall hd hbel
        generalize outT t n f t.length = q at *
        go_wp2_with (at_builtin; refine wpList_append_own _ rfl _ _ 116 rfl w.heap.size 164 i0 (.agg #[strV [], .int .i64 0]) 2 24 Tryz.underlying116 hi hz0 hz1 hz2 rfl (by omega) _ q.length (cellsT q) rfl (hown.alloc _) ⟨wr.heap.size, 0, none⟩ 1 1 [strV n, .int .i64 f] rfl rfl ?c1 ?c2 ?c3 ?c4 ?c5 ?_)
        case c1 => exact World.news_of_block (cs := #[strV n, .int .i64 f]) (t := 164) (fr := (0, 0)) (heap_alloc_new wr _)
        case c2 => simp [Value.oneCell']
        case c3 => unfold maxLen; omega
        case c4 => omega
        case c5 => simp; omega
        intro v5 w5 hown5 hgrow5 hv5
        have hbel5 : Below w.heap.size w w5 := (HB.out.alloc hsz _).grown hgrow5 (by simp; omega) (fun j hj => (HLT.out j hj).1)
        rw [← HEC.out, ← HEL.out] at hown5
        have HO5 := Lib.hid hown5
        have HB5 := Lib.hid hbel5
        clear hown5 hgrow5 hv5 hbel5
        go_wp2
        go_ret
        exact ⟨_, rfl, HO5.out, HB5.out⟩
end Go.Proofs.YtfgpigblnkanpaaGreatDoor
