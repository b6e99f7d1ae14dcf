/- The document's disk: right, done. -/
import Derived.Test.YtfgpigblnkanpaaGreatDoorRb
import Derived.Deep.RegionHeld3
import Derived.BigRegion
import Derived.Deep.RegionWith
namespace Go.Proofs.YtfgpigblnkanpaaGreatDoor
open Go.RowKit Go.Maps Go.Shelf
set_option linter.unusedVariables false

set_option maxRecDepth 100000 in
theorem rRight_any (w : World) (n : Nm) (hn : n.length ≤ 140737488355328) : Calls Tryz.prog 147 #[strV n] w fun e w' => e = .returned (.bool (!badName n)) ∧ w = w' := by
  have hsz := str_size n
  by_cases h1 : 1 ≤ n.length
  · by_cases h2 : n.length ≤ 200
    · have hb : (!badName n) = true := by
        unfold badName
        cases n with
        | nil => simp at h1
        | cons a l => simp at h2 ⊢; omega
      rw [hb]
      have k1 : (1 : Int) ≤ (n.length : Int) := by omega
      have k2 : (n.length : Int) ≤ 200 := by omega
      clear hb h1 h2
      go_enter Tryz.func147, Tryz.ntmps147
      go_wp2
      go_ret
      exact ⟨rfl, rfl⟩
    · have hb : (!badName n) = false := by unfold badName; simp; omega
      rw [hb]
      have k1 : (1 : Int) ≤ (n.length : Int) := by omega
      have k2 : ¬ (n.length : Int) ≤ 200 := by omega
      clear hb h1 h2
      go_enter Tryz.func147, Tryz.ntmps147
      go_wp2
      go_ret
      exact ⟨rfl, rfl⟩
  · have hb : (!badName n) = false := by
      unfold badName
      cases n with
      | nil => rfl
      | cons a l => simp at h1
    rw [hb]
    have k1 : ¬ (1 : Int) ≤ (n.length : Int) := by omega
    clear hb h1
    go_enter Tryz.func147, Tryz.ntmps147
    go_wp2
    go_ret
    exact ⟨rfl, rfl⟩
/-- An operation on names, as the document keeps it. -/
def opCells : Pn → List Value
  | .cr n f => [.int .i64 1, strV [], strV n, .int .i64 (f : Nat)]
  | .rn o n => [.int .i64 4, strV o, strV n, .int .i64 0]
  | .rm n => [.int .i64 5, strV [], strV n, .int .i64 0]
def pnSmall : Pn → Prop
  | .cr n f => f ≤ 9223372036854775807
  | _ => True
/-- A table that is handed back: the one that was given, or a new one. -/
def TabTo (w : World) (v : Value) (t' : Tb) (e : Ending) (w' : World) : Prop := ∃ v', e = .returned v' ∧ TabAt w' v' t' ∧ (∀ b, v'.ownBlock = some b → (w.heap.size ≤ b ∧ b < w'.heap.size) ∨ v.ownBlock = some b) ∧ Below w.heap.size w w'
set_option maxHeartbeats 4000000 in
set_option maxRecDepth 100000 in
theorem rDone_any (w : World) (v : Value) (t : Tb) (p : Pn) (h : TabAt w v t) (hr : Rise t) (hl : t.length ≤ 2147483648) (hp : pnSmall p) (hf : ∀ x ∈ t, x.2 ≤ 9223372036854775807) : Calls Tryz.prog 122 #[v, .agg (opCells p).toArray] w (TabTo w v (tdone t p)) := by
  have hS : Below w.heap.size w (w.alloc (.cells (opCells p).toArray 122)) := (Below.refl _ w).alloc (Nat.le_refl _) _
  have hbx := Blk.new w (opCells p) 122
  have y0 := hbx.cell 0
  have y1 := hbx.cell 1
  have y2 := hbx.cell 2
  have y3 := hbx.cell 3
  have hlt := hbx.lt
  have HS := Lib.hid hS
  have HT := Lib.hid (h.below hS)
  have HV := Lib.hid h
  obtain ⟨a, c, rfl, -⟩ := h
  cases p with
  | cr n f =>
    unfold opCells at *
    simp only [List.getElem?_cons_zero, List.getElem?_cons_succ] at y0 y1 y2 y3
    have HW := Lib.hid (rWith_any _ _ t n f HT.out hr (by omega) hp)
    clear hr hbx hS
    go_enter Tryz.func122, Tryz.ntmps122
    go_wp2_with (fail)
    refine HW.out.mono ?_
    rintro e w1 ⟨v', rfl, hrow, hb1⟩
    have hres : TabTo w (.slice a t.length c) (tdone t (.cr n f)) (.returned v') w1 := ⟨v', rfl, TabAt.of_row hrow, fun b hb => Or.inl ⟨by have := (hrow.lt b hb).1; simp at this; omega, (hrow.lt b hb).2⟩, HS.out.trans (hb1.mono (by simp))⟩
    have HRES := Lib.hid hres
    clear hrow hb1 hres
    go_wp2
    go_ret
    exact HRES.out
  | rm n =>
    unfold opCells at *
    simp only [List.getElem?_cons_zero, List.getElem?_cons_succ] at y0 y1 y2 y3
    have HW := Lib.hid (rWithout_any _ _ t n HT.out (by omega))
    clear hr hbx hS
    go_enter Tryz.func122, Tryz.ntmps122
    go_wp2_with (fail)
    refine HW.out.mono ?_
    rintro e w1 ⟨v', rfl, hrow, hb1⟩
    have hres : TabTo w (.slice a t.length c) (tdone t (.rm n)) (.returned v') w1 := ⟨v', rfl, TabAt.of_row hrow, fun b hb => Or.inl ⟨by have := (hrow.lt b hb).1; simp at this; omega, (hrow.lt b hb).2⟩, HS.out.trans (hb1.mono (by simp))⟩
    have HRES := Lib.hid hres
    clear hrow hb1 hres
    go_wp2
    go_ret
    exact HRES.out
  | rn o n =>
    unfold opCells at *
    simp only [List.getElem?_cons_zero, List.getElem?_cons_succ] at y0 y1 y2 y3
    have HW := Lib.hid (rAt_any _ _ t o HT.out (by omega))
    have HR := Lib.hid hr
    clear hr hbx hS
    go_enter Tryz.func122, Tryz.ntmps122
    go_wp2_with (fail)
    refine HW.out.mono ?_
    rintro e w1 ⟨p, rfl, hat, rfl⟩
    rcases hat with ⟨rfl, hno⟩ | ⟨k, f, rfl, htk, hget⟩
    · have hres : TabTo w (.slice a t.length c) (tdone t (.rn o n)) (.returned (.slice a t.length c)) (w.alloc (.cells #[.int .i64 4, strV o, strV n, .int .i64 0] 122)) := ⟨_, rfl, by simp only [tdone, hno]; exact HT.out, fun b hb => Or.inr hb, HS.out⟩
      have HRES := Lib.hid hres
      clear hres hno
      go_wp2
      go_ret
      exact HRES.out
    · obtain ⟨_, _, hwe, hrx⟩ := HT.out
      simp only [Value.slice.injEq] at hwe
      obtain ⟨rfl, -, rfl⟩ := hwe
      obtain ⟨b, off, rfl, c0, c1⟩ := hrx k _ htk
      have hkl := (List.getElem?_eq_some_iff.1 htk).1
      have ik0 : (0 : Int) ≤ (k : Int) := by omega
      have ik1 : (k : Int) < (t.length : Int) := by omega
      have ik2 : ¬ (k : Int) < 0 := by omega
      have hfl := hf _ (List.mem_of_getElem? htk)
      by_cases hon : o = n
      · subst hon
        have hb3 : ((str o).toList == (str o).toList) = true := by simp
        have hres : TabTo w (.slice (some ⟨b, off, none⟩) t.length c) (tdone t (.rn o o)) (.returned (.slice (some ⟨b, off, none⟩) t.length c)) (w.alloc (.cells #[.int .i64 4, strV o, strV o, .int .i64 0] 122)) := ⟨_, rfl, by simp only [tdone, hget]; rw [tins_same HR.out hget]; exact HT.out, fun b hb => Or.inr hb, HS.out⟩
        have HRES := Lib.hid hres
        clear hres hget hrx htk
        go_wp2
        go_ret
        exact HRES.out
      · have hb3 : ((str o).toList == (str n).toList) = false := by rw [toList_str, toList_str]; simpa using hon
        have HO := Lib.hid fun W (hb : Below (w.alloc (.cells #[.int .i64 4, strV o, strV n, .int .i64 0] 122)).heap.size (w.alloc (.cells #[.int .i64 4, strV o, strV n, .int .i64 0] 122)) W) => rWithout_any W _ t o (HT.out.below hb) (by omega)
        have HG := Lib.hid hget
        clear hget hrx htk hon
        go_upto_region 10 with (fail)
        go_region_with (first
          | (go_at_call 149; refine (HO.out _ (Below.refl _ _).drew).mono ?_; rintro e w1 ⟨v1, rfl, hrow1, hb1⟩; have k2 := (hb1.cell (p := ⟨w.heap.size, 2, none⟩) hlt).trans y2)
          | (go_at_call 148; refine (rWith_any _ _ (tout t o) n f (TabAt.of_row hrow1) (HR.out.out o) (by have := List.length_filter_le (fun x => x.1 != o) t; unfold tout; omega) hfl).mono ?_; rintro e w2 ⟨v2, rfl, hrow2, hb2⟩))
        all_goals
          have hb3 := below_undrew hb1
          have hb4 : Below w.heap.size w w2 := (HS.out.trans (hb3.mono (by simp))).trans (hb2.mono (by have := hb3.size; simp at this; omega))
          have hres : TabTo w (.slice (some ⟨b, off, none⟩) t.length c) (tdone t (.rn o n)) (.returned v2) w2 := ⟨v2, rfl, by simp only [tdone, HG.out]; exact TabAt.of_row hrow2, fun b hb => Or.inl ⟨by have h1 := (hrow2.lt b hb).1; have h2 := hb3.size; simp at h2; omega, (hrow2.lt b hb).2⟩, hb4⟩
          have HRES := Lib.hid hres
          clear hrow1 hb1 hrow2 hb2 hb3 hb4 hres
          go_wp2
          go_ret
          exact HRES.out
end Go.Proofs.YtfgpigblnkanpaaGreatDoor
