/- The document's disk: what is refused. -/
import Derived.Test.YtfgpigblnkanpaaGreatDoorGR
import Derived.StillTailTactics
import Derived.Deep.RegionHeld3
namespace Go.Proofs.YtfgpigblnkanpaaGreatDoor
open Go.RowKit Go.Maps Go.Shelf
set_option linter.unusedVariables false

theorem RefIn.below {w w' : World} {g : Nat} {fv nv sv pv kv : Value} {d : Dk} (h : RefIn w g fv nv sv pv kv d) (hb : Below w.heap.size w w') : RefIn w' g fv nv sv pv kv d :=
  ⟨h.blk.below hb h.blk.lt, row_below h.files hb, h.now.below hb, h.safe.below hb, row_below h.pend hb, h.fate.below hb, h.gf, h.gn, h.gs, h.gp, h.gk, h.fn, h.pn⟩
theorem AtPost.there (t : Tb) (n : Nm) : ∃ p, AtPost t n p := by
  cases h : tget t n with
  | none => exact ⟨-1, Or.inl ⟨rfl, h⟩⟩
  | some f =>
    obtain ⟨k, hk, e⟩ := List.getElem_of_mem (tget_mem h)
    exact ⟨k, Or.inr ⟨k, f, rfl, by rw [List.getElem?_eq_getElem hk, e], h⟩⟩
theorem AtPost.unique {t : Tb} (hr : Rise t) {n : Nm} {p q : Int} (h1 : AtPost t n p) (h2 : AtPost t n q) : p = q := by
  rcases h1 with ⟨rfl, a⟩ | ⟨k, f, rfl, a, b⟩
  · rcases h2 with ⟨rfl, _⟩ | ⟨j, f', rfl, _, d⟩
    · rfl
    · rw [a] at d; cases d
  · rcases h2 with ⟨rfl, c⟩ | ⟨j, f', rfl, c, d⟩
    · rw [b] at c; cases c
    · rcases Nat.lt_trichotomy k j with h | h | h
      · have := rise_before hr c a h
        simp only [nlt_irrefl] at this
        cases this
      · rw [h]
      · have := rise_before hr a c h
        simp only [nlt_irrefl] at this
        cases this
theorem rAt_at {w : World} {v : Value} {t : Tb} {n : Nm} {p : Int} (h : TabAt w v t) (hr : Rise t) (hl : t.length ≤ 4294967296) (hp : AtPost t n p) : Calls Tryz.prog 121 #[v, strV n] w fun e w' => e = .returned (.int .i64 p) ∧ w' = w :=
  (rAt_any w v t n h (by omega)).mono fun e w' ⟨q, he, hq, hw⟩ => ⟨by rw [he, AtPost.unique hr hq hp], hw.symm⟩
/-- An operation as it is asked of the document. -/
def odCells (nm : Nm) : Od → List Value
  | .create n => [.int .i64 1, strV [], strV n, .int .i64 0]
  | .write n _ => [.int .i64 2, strV [], strV n, .int .i64 0]
  | .sync n => [.int .i64 3, strV [], strV n, .int .i64 0]
  | .rename o n => [.int .i64 4, strV o, strV n, .int .i64 0]
  | .remove n => [.int .i64 5, strV [], strV n, .int .i64 0]
  | .flush => [.int .i64 6, strV [], strV nm, .int .i64 0]
def odText : Od → List UInt8
  | .write _ s => s
  | _ => []
def odName (nm : Nm) : Od → Nm
  | .create n => n
  | .write n _ => n
  | .sync n => n
  | .rename _ n => n
  | .remove n => n
  | .flush => nm
def odSmall : Od → Prop
  | .create n => n.length ≤ 140737488355328
  | .write n s => n.length ≤ 140737488355328 ∧ s.length ≤ 140737488355328
  | .sync n => n.length ≤ 140737488355328
  | .rename o n => o.length ≤ 140737488355328 ∧ n.length ≤ 140737488355328
  | .remove n => n.length ≤ 140737488355328
  | .flush => True
/-- What holds of the document's disk besides. -/
structure RefB (d : Dk) : Prop where
  ok : DkOk d
  now : d.now.length ≤ 2147483648
  files : d.files.length ≤ 2147483648
  sum : dsum d.files d.now ≤ 1152921504606846976
  room : d.room ≤ 268435456
set_option maxHeartbeats 8000000 in
set_option maxRecDepth 100000 in
theorem rRefused_any (w : World) (g : Nat) (fv nv sv pv kv : Value) (d : Dk) (o : Od) (nm : Nm) (tx : List UInt8) (h : RefIn w g fv nv sv pv kv d) (hB : RefB d) (ho : odSmall o) (htx : ∀ n s, o = .write n s → tx = s) (hoff : d.off = false) (htl : tx.length ≤ 140737488355328) :
    Calls Tryz.prog 120 #[.pointer (some ⟨g, 0, none⟩), .agg (odCells nm o).toArray, strV tx] w fun e w' => e = .returned (.int .i64 (drefused d o : Nat)) ∧ Below w.heap.size w w' := by
  have hS : Below w.heap.size w (w.alloc (.cells (odCells nm o).toArray 122)) := (Below.refl _ w).alloc (Nat.le_refl _) _
  have hbx := Blk.new w (odCells nm o) 122
  have y0 := hbx.cell 0
  have y1 := hbx.cell 1
  have y2 := hbx.cell 2
  have hg : g < w.heap.size := h.blk.lt
  obtain ⟨d0, d1, d2, d3, -, -, -, -⟩ := h.cells
  have c1 := (hS.cell (p := ⟨g, 1, none⟩) hg).trans d1
  have c3 := (hS.cell (p := ⟨g, 3, none⟩) hg).trans d3
  obtain ⟨p, hp⟩ := AtPost.there d.now (odName nm o)
  have HS := Lib.hid hS
  have HN := h.now.below hS
  have HR := Lib.hid (h.below hS)
  have hgW : g < (w.alloc (.cells (odCells nm o).toArray 122)).heap.size := by simp; omega
  clear d0 d1 d2 d3 hbx hS
  obtain ⟨na, nc, hnv, -⟩ := h.now
  subst hnv
  cases o with
  | flush =>
    unfold odCells odName at *
    simp only [List.getElem?_cons_zero, List.getElem?_cons_succ] at y0 y1 y2
    generalize hW : w.alloc (.cells [Value.int .i64 6, strV [], strV nm, Value.int .i64 0].toArray 122) = W at *
    have HD : Hid (Below w.heap.size w W.drew) := HS.out.drew
    have HA := rAt_at (w := W.drew) (HN.below ((Below.refl _ _).drew)) hB.ok.now (by have := hB.now; omega) hp
    have e : drefused d .flush = 0 := rfl
    rw [e]
    clear h hp HN
    go_enter Tryz.func120, Tryz.ntmps120
    go_upto_region 1 with (fail)
    refine wp_region_still_lit (by kernel_rfl) (by kernel_rfl) ?_
    repeat still_step
    still_call HA
    repeat still_step
    refine wpStill_nil ?_
    go_wp2
    go_ret
    exact ⟨rfl, HD.out⟩
  | sync n =>
    unfold odCells odName at *
    simp only [List.getElem?_cons_zero, List.getElem?_cons_succ] at y0 y1 y2
    generalize hW : w.alloc (.cells [Value.int .i64 3, strV [], strV n, Value.int .i64 0].toArray 122) = W at *
    have HD : Hid (Below w.heap.size w W.drew) := HS.out.drew
    have HA := rAt_at (w := W.drew) (HN.below ((Below.refl _ _).drew)) hB.ok.now (by have := hB.now; omega) hp
    rcases hp with ⟨rfl, hno⟩ | ⟨k, f, rfl, -, hg⟩
    · have e : drefused d (.sync n) = 18 := by simp [drefused, hno]
      rw [e]
      clear h HN hno e
      go_enter Tryz.func120, Tryz.ntmps120
      go_upto_region 1 with (fail)
      refine wp_region_still_lit (by kernel_rfl) (by kernel_rfl) ?_
      repeat still_step
      still_call HA
      repeat still_step
      refine wpStill_nil ?_
      go_wp2
      go_ret
      exact ⟨rfl, HD.out⟩
    · have e : drefused d (.sync n) = 0 := by simp [drefused, hg]
      rw [e]
      have ik : ¬ (k : Int) < 0 := by omega
      clear h HN hg e
      go_enter Tryz.func120, Tryz.ntmps120
      go_upto_region 1 with (fail)
      refine wp_region_still_lit (by kernel_rfl) (by kernel_rfl) ?_
      repeat still_step
      still_call HA
      repeat still_step
      refine wpStill_nil ?_
      go_wp2
      go_ret
      exact ⟨rfl, HD.out⟩
  | remove n =>
    unfold odCells odName at *
    simp only [List.getElem?_cons_zero, List.getElem?_cons_succ] at y0 y1 y2
    generalize hW : w.alloc (.cells [Value.int .i64 5, strV [], strV n, Value.int .i64 0].toArray 122) = W at *
    have HD : Hid (Below w.heap.size w W.drew) := HS.out.drew
    have HA := rAt_at (w := W.drew) (HN.below ((Below.refl _ _).drew)) hB.ok.now (by have := hB.now; omega) hp
    rcases hp with ⟨rfl, hno⟩ | ⟨k, f, rfl, -, hg⟩
    · have e : drefused d (.remove n) = 18 := by simp [drefused, hno]
      rw [e]
      clear h HN hno e
      go_enter Tryz.func120, Tryz.ntmps120
      go_upto_region 1 with (fail)
      refine wp_region_still_lit (by kernel_rfl) (by kernel_rfl) ?_
      repeat still_step
      still_call HA
      repeat still_step
      refine wpStill_nil ?_
      go_wp2
      go_ret
      exact ⟨rfl, HD.out⟩
    · have e : drefused d (.remove n) = 0 := by simp [drefused, hg]
      rw [e]
      have ik : ¬ (k : Int) < 0 := by omega
      clear h HN hg e
      go_enter Tryz.func120, Tryz.ntmps120
      go_upto_region 1 with (fail)
      refine wp_region_still_lit (by kernel_rfl) (by kernel_rfl) ?_
      repeat still_step
      still_call HA
      repeat still_step
      refine wpStill_nil ?_
      go_wp2
      go_ret
      exact ⟨rfl, HD.out⟩
  | create n =>
    unfold odCells odName at *
    simp only [List.getElem?_cons_zero, List.getElem?_cons_succ] at y0 y1 y2
    generalize hW : w.alloc (.cells [Value.int .i64 1, strV [], strV n, Value.int .i64 0].toArray 122) = W at *
    have HD : Hid (Below w.heap.size w W.drew) := HS.out.drew
    have HA := rAt_at (w := W.drew) (HN.below ((Below.refl _ _).drew)) hB.ok.now (by have := hB.now; omega) hp
    have hrt := rRight_any W.drew n ho
    cases hb : badName n with
    | true =>
      have e : drefused d (.create n) = 21 := by simp [drefused, hb]
      rw [e]
      rw [hb] at hrt
      have HRT := Lib.hid hrt
      clear h HN hp e hb hrt
      go_enter Tryz.func120, Tryz.ntmps120
      go_upto_region 1 with (fail)
      refine wp_region_still_lit (by kernel_rfl) (by kernel_rfl) ?_
      repeat still_step
      still_call HA
      repeat still_step
      refine wpStill_nil ?_
      go_wp2_with (fail)
      refine HRT.out.mono ?_
      rintro e w5 ⟨rfl, rfl⟩
      go_wp2
      go_ret
      exact ⟨rfl, HD.out⟩
    | false =>
      rw [hb] at hrt
      have HRT := Lib.hid hrt
      rcases hp with ⟨rfl, hno⟩ | ⟨k, f, rfl, -, hg⟩
      · have e : drefused d (.create n) = 0 := by simp [drefused, hb, hno]
        rw [e]
        clear h HN hno e hb hrt
        go_enter Tryz.func120, Tryz.ntmps120
        go_upto_region 1 with (fail)
        refine wp_region_still_lit (by kernel_rfl) (by kernel_rfl) ?_
        repeat still_step
        still_call HA
        repeat still_step
        refine wpStill_nil ?_
        go_wp2_with (fail)
        refine HRT.out.mono ?_
        rintro e w5 ⟨rfl, rfl⟩
        go_wp2
        go_ret
        exact ⟨rfl, HD.out⟩
      · have e : drefused d (.create n) = 13 := by simp [drefused, hb, hg]
        rw [e]
        have ik : (0 : Int) ≤ (k : Int) := by omega
        clear h HN hg e hb hrt
        go_enter Tryz.func120, Tryz.ntmps120
        go_upto_region 1 with (fail)
        refine wp_region_still_lit (by kernel_rfl) (by kernel_rfl) ?_
        repeat still_step
        still_call HA
        repeat still_step
        refine wpStill_nil ?_
        go_wp2_with (fail)
        refine HRT.out.mono ?_
        rintro e w5 ⟨rfl, rfl⟩
        go_wp2
        go_ret
        exact ⟨rfl, HD.out⟩
  | write n s =>
    obtain rfl := htx n s rfl
    unfold odCells odName at *
    simp only [List.getElem?_cons_zero, List.getElem?_cons_succ] at y0 y1 y2
    generalize hW : w.alloc (.cells [Value.int .i64 2, strV [], strV n, Value.int .i64 0].toArray 122) = W at *
    have HD : Hid (Below w.heap.size w W.drew) := HS.out.drew
    have HA := rAt_at (w := W.drew) (HN.below ((Below.refl _ _).drew)) hB.ok.now (by have := hB.now; omega) hp
    rcases hp with ⟨rfl, hno⟩ | ⟨k, f, rfl, -, hg⟩
    · have e : drefused d (.write n tx) = 18 := by simp [drefused, hno]
      rw [e]
      clear h HN hno e
      go_enter Tryz.func120, Tryz.ntmps120
      go_upto_region 1 with (fail)
      refine wp_region_still_lit (by kernel_rfl) (by kernel_rfl) ?_
      repeat still_step
      still_call HA
      repeat still_step
      refine wpStill_nil ?_
      go_wp2
      go_ret
      exact ⟨rfl, HD.out⟩
    · have ik : ¬ (k : Int) < 0 := by omega
      have hsum := hB.sum
      have hroom := hB.room
      have hud : dused d = dsum d.files d.now := by unfold dused; rw [if_neg (by rw [hoff]; simp)]
      have hsz := str_size tx
      have hUW : ∀ V, Below W.heap.size W V → Calls Tryz.prog 80 #[.pointer (some ⟨g, 0, none⟩)] V fun e w' => e = .returned (.int .i64 (dused d : Nat)) ∧ Below V.heap.size V w' := fun V hV =>
        (rUsed_any V g fv (.slice na d.now.length nc) sv pv kv d (HR.out.below hV) hB.ok (by have := hB.now; omega) (by have := hB.files; omega) (by have := hB.sum; omega)).mono fun e w' ⟨he, q, hq⟩ => ⟨he, hq ▸ below_drewN (Below.refl _ _) q⟩
      have HU := Lib.hid hUW
      obtain ⟨u, hu⟩ : ∃ u, u = dused d := ⟨_, rfl⟩
      have hule : u ≤ 1152921504606846976 := by rw [hu, hud]; exact hsum
      rw [← hu] at HU
      clear hud hsum
      have hwr : IntKind.i64.wrap ((u : Int) + (tx.length : Int)) = (u : Int) + (tx.length : Int) := IntWalk.i64_in _ (by omega)
      have hg2 := hgW
      by_cases hfull : d.room < u + tx.length
      · have e : drefused d (.write n tx) = 19 := by simp [drefused, hg, ← hu, hfull]
        rw [e]
        have i2 : decide ((d.room : Int) < (u : Int) + (tx.length : Int)) = true := by simp; omega
        clear h HN hg e hUW hu
        go_enter Tryz.func120, Tryz.ntmps120
        go_upto_region 1 with (fail)
        refine wp_region_still_lit (by kernel_rfl) (by kernel_rfl) ?_
        repeat still_step
        still_call HA
        repeat still_step
        refine wpStill_nil ?_
        go_upto_region 11 with (fail)
        go_region_held3 (fun w' => w'.cell? ⟨g, 1, none⟩ = some (.int .i64 d.room) ∧ Below W.heap.size W w')
          (first | assumption | exact ⟨c1, ((Below.refl _ _).drew).drew⟩ | exact ((Below.refl _ _).drew).drew | exact ⟨c1, (Below.refl _ _).drew⟩ | exact (Below.refl _ _).drew | (have hh := ‹_ ∧ Below W.heap.size W _›; exact ⟨hh.1, hh.2.drew⟩) | (have hh := ‹_ ∧ Below W.heap.size W _›; exact ⟨(hb.cell (p := ⟨g, 1, none⟩) (Nat.lt_of_lt_of_le hgW hh.2.size)).trans hh.1, hh.2.trans (hb.mono hh.2.size)⟩) | go_keep)
          (first | (go_at_call 80; (with_reducible refine (HU.out _ (by have hh := ‹_ ∧ Below W.heap.size W _›; exact hh.2)).mono ?_); rintro e w1 ⟨rfl, hb⟩))
        have hfin : Below w.heap.size w w1 := HS.out.trans ((‹_ ∧ Below W.heap.size W w1›).2.mono HS.out.size)
        have HFIN := Lib.hid hfin
        clear hfin
        go_wp2
        go_ret
        exact ⟨rfl, HFIN.out⟩
      · have e : drefused d (.write n tx) = 0 := by simp [drefused, hg, ← hu, hfull]
        rw [e]
        have i2 : decide ((d.room : Int) < (u : Int) + (tx.length : Int)) = false := by simp; omega
        clear h HN hg e hUW hu
        go_enter Tryz.func120, Tryz.ntmps120
        go_upto_region 1 with (fail)
        refine wp_region_still_lit (by kernel_rfl) (by kernel_rfl) ?_
        repeat still_step
        still_call HA
        repeat still_step
        refine wpStill_nil ?_
        go_upto_region 11 with (fail)
        go_region_held3 (fun w' => w'.cell? ⟨g, 1, none⟩ = some (.int .i64 d.room) ∧ Below W.heap.size W w')
          (first | assumption | exact ⟨c1, ((Below.refl _ _).drew).drew⟩ | exact ((Below.refl _ _).drew).drew | exact ⟨c1, (Below.refl _ _).drew⟩ | exact (Below.refl _ _).drew | (have hh := ‹_ ∧ Below W.heap.size W _›; exact ⟨hh.1, hh.2.drew⟩) | (have hh := ‹_ ∧ Below W.heap.size W _›; exact ⟨(hb.cell (p := ⟨g, 1, none⟩) (Nat.lt_of_lt_of_le hgW hh.2.size)).trans hh.1, hh.2.trans (hb.mono hh.2.size)⟩) | go_keep)
          (first | (go_at_call 80; (with_reducible refine (HU.out _ (by have hh := ‹_ ∧ Below W.heap.size W _›; exact hh.2)).mono ?_); rintro e w1 ⟨rfl, hb⟩))
        have hfin : Below w.heap.size w w1 := HS.out.trans ((‹_ ∧ Below W.heap.size W w1›).2.mono HS.out.size)
        have HFIN := Lib.hid hfin
        clear hfin
        go_wp2
        go_ret
        exact ⟨rfl, HFIN.out⟩
  | rename o n =>
    obtain ⟨q, hq⟩ := AtPost.there d.now o
    unfold odCells odName at *
    simp only [List.getElem?_cons_zero, List.getElem?_cons_succ] at y0 y1 y2
    generalize hW : w.alloc (.cells [Value.int .i64 4, strV o, strV n, Value.int .i64 0].toArray 122) = W at *
    have HD : Hid (Below w.heap.size w W.drew) := HS.out.drew
    have HA := rAt_at (w := W.drew) (HN.below ((Below.refl _ _).drew)) hB.ok.now (by have := hB.now; omega) hp
    have HA2 := rAt_at (w := W.drew.drew) (HN.below (((Below.refl _ _).drew).drew)) hB.ok.now (by have := hB.now; omega) hq
    have c3' : W.drew.cell? ⟨g, 3, none⟩ = some (.slice na d.now.length nc) := c3
    have y1' : W.drew.cell? ⟨w.heap.size, 1, none⟩ = some (strV o) := y1
    have y2' : W.drew.cell? ⟨w.heap.size, 2, none⟩ = some (strV n) := y2
    have HD2 : Hid (Below w.heap.size w W.drew.drew) := HS.out.drew.drew
    rcases hq with ⟨rfl, hno⟩ | ⟨k, f, rfl, -, hg⟩
    · have e : drefused d (.rename o n) = 18 := by simp [drefused, hno]
      rw [e]
      clear h HN hno e hp
      go_enter Tryz.func120, Tryz.ntmps120
      go_upto_region 1 with (fail)
      refine wp_region_still_lit (by kernel_rfl) (by kernel_rfl) ?_
      repeat still_step
      still_call HA
      repeat still_step
      refine wpStill_nil ?_
      go_upto_region 14 with (fail)
      generalize W.drew = V at *
      refine wp_region_still_lit (by kernel_rfl) (by kernel_rfl) ?_
      repeat still_step
      still_call HA2
      repeat still_step
      refine wpStill_nil ?_
      go_wp2
      go_ret
      exact ⟨rfl, HD2.out⟩
    · have ik : ¬ (k : Int) < 0 := by omega
      have hrt := rRight_any W.drew.drew n ho.2
      cases hb : badName n with
      | true =>
        have e : drefused d (.rename o n) = 21 := by simp [drefused, hb, hg]
        rw [e]
        rw [hb] at hrt
        have HRT := Lib.hid hrt
        clear h HN hg hp e hb hrt
        go_enter Tryz.func120, Tryz.ntmps120
        go_upto_region 1 with (fail)
        refine wp_region_still_lit (by kernel_rfl) (by kernel_rfl) ?_
        repeat still_step
        still_call HA
        repeat still_step
        refine wpStill_nil ?_
        go_upto_region 14 with (fail)
        generalize W.drew = V at *
        refine wp_region_still_lit (by kernel_rfl) (by kernel_rfl) ?_
        repeat still_step
        still_call HA2
        repeat still_step
        refine wpStill_nil ?_
        go_wp2_with (fail)
        refine HRT.out.mono ?_
        rintro e w5 ⟨rfl, rfl⟩
        go_wp2
        go_ret
        exact ⟨rfl, HD2.out⟩
      | false =>
        have e : drefused d (.rename o n) = 0 := by simp [drefused, hb, hg]
        rw [e]
        rw [hb] at hrt
        have HRT := Lib.hid hrt
        clear h HN hg hp e hb hrt
        go_enter Tryz.func120, Tryz.ntmps120
        go_upto_region 1 with (fail)
        refine wp_region_still_lit (by kernel_rfl) (by kernel_rfl) ?_
        repeat still_step
        still_call HA
        repeat still_step
        refine wpStill_nil ?_
        go_upto_region 14 with (fail)
        generalize W.drew = V at *
        refine wp_region_still_lit (by kernel_rfl) (by kernel_rfl) ?_
        repeat still_step
        still_call HA2
        repeat still_step
        refine wpStill_nil ?_
        go_wp2_with (fail)
        refine HRT.out.mono ?_
        rintro e w5 ⟨rfl, rfl⟩
        go_wp2
        go_ret
        exact ⟨rfl, HD2.out⟩
end Go.Proofs.YtfgpigblnkanpaaGreatDoor
