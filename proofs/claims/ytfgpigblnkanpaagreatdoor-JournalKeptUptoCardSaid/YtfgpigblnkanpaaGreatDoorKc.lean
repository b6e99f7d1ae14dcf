/- What is known of a journal: the walk of right. -/
import Derived.Test.YtfgpigblnkanpaaGreatDoorKb
import Derived.Test.YtfgpigblnkanpaaGreatDoorGP
import Derived.Test.YtfgpigblnkanpaaGreatDoorGF
import Derived.Deep.RegionWith
import Derived.Deep.AppendLies
import Derived.Deep.RegionLaw
import Derived.BigQuiet
namespace Go.Proofs.YtfgpigblnkanpaaGreatDoor
open Go.RowKit Go.Maps Go.Shelf
set_option linter.unusedVariables false
set_option linter.unusedSimpArgs false

theorem infoStrK : (Tryz.prog.info? 9).map (fun i => (i.zero, i.size, i.bytes)) = some (some (strV []), 1, 16) := by kernel_rfl
set_option maxHeartbeats 1000000 in
set_option maxRecDepth 100000 in
theorem Plain_other (no m : Nat) (w : World) (h1 : 1 ≤ no) (h : no ≤ 25) (hne : no ≠ m) : Calls Tryz.prog 28 #[errV no, .int .i64 m] w fun e w' => e = .returned (.bool false) ∧ Below w.heap.size w w' := by
  have hnum := fun w => Num_errno no w h1 h
  rw [errV_some (by omega)] at hnum ⊢
  have HN := Lib.hid hnum
  have hq : ((no : Int) == (m : Int)) = false := by simp; omega
  have hB0 := (Below.refl w.heap.size w).alloc (Nat.le_refl _) (.cells #[.int .i64 0, .int .i64 0, .int .i64 0] 135)
  clear hnum
  go_enter Tryz.func28, Tryz.ntmps28
  go_wp2_with (fail)
  refine (HN.out _).mono ?_
  rintro e w1 ⟨rfl, hb1⟩
  have hB := hB0.trans (hb1.mono (by simp))
  have HB := Lib.hid hB
  clear hB hb1 hB0
  go_wp2
  go_ret
  exact ⟨rfl, HB.out⟩
set_option maxHeartbeats 2000000 in
set_option maxRecDepth 100000 in
theorem CopyTexts_any (w : World) (v : Value) (l : List Nm) (h : ShapeT w v l) (hl : l.length ≤ 4294967296) : Calls Tryz.prog 107 #[v] w fun e w' => ∃ v', e = .returned v' ∧ w'.ownsRow w.heap.size 9 1 v' l.length (l.map strV) ∧ Below w.heap.size w w' := by
  obtain ⟨i0, hi, hz0, hz1, hz2⟩ := info_parts infoStrK
  obtain ⟨ka, kc, rfl, hx⟩ := h
  have HI := Lib.hid hx
  clear hx
  go_enter Tryz.func107, Tryz.ntmps107
  go_wp2_with (fail)
  go_loopw [3, 4] (fun u iv wr => ∃ k : Nat, iv = .int .i64 k ∧ k ≤ l.length ∧ wr.ownsRow w.heap.size 9 1 u k ((l.take k).map strV) ∧ Below w.heap.size w wr) (fun _ iv _ => l.length - (intOf iv).toNat)
  case atStart => exact ⟨0, rfl, Nat.zero_le _, World.ownsRow_nil _ _ _ _, Below.refl _ _⟩
  case round =>
    obtain ⟨k, rfl, hk, hown, hbel⟩ := hrel
    have hsz := hbel.size
    by_cases hlt : k < l.length
    · obtain ⟨x, hx⟩ : ∃ x, l[k]? = some x := ⟨_, List.getElem?_eq_getElem hlt⟩
      obtain ⟨b, off, rfl, hcw⟩ := HI.out k x hx
      have hcr := (hbel.cell (World.block_lt_of_cell? w _ hcw)).trans hcw
      have ht : (l.take (k + 1)).map strV = (l.take k).map strV ++ [strV x] := by rw [List.take_add_one, hx]; simp
      have HT := Lib.hid ht
      have ik0 : (0 : Int) ≤ (k : Int) := by omega
      have ik1 : (k : Int) < (l.length : Int) := by omega
      have HB := Lib.hid hbel
      have HLT := Lib.hid hown.lt
      clear hx hcw ht hbel
      generalize (l.take k).map strV = xs at *
      go_wp2_with (at_builtin; refine wpList_append_own _ rfl _ _ 37 rfl w.heap.size 9 i0 (strV []) 1 16 Tryz.underlying37 hi hz0 hz1 hz2 rfl (by decide) _ k xs rfl (hown.alloc _) ⟨wr.heap.size, 0, none⟩ 1 1 [strV x] rfl rfl ?c1 ?c2 ?c3 ?c4 ?c5 ?_)
      case c1 => exact World.news_of_block (cs := #[strV x]) (t := 9) (fr := (0, 0)) (heap_alloc_new wr _)
      case c2 => intro u hu; simp at hu; subst hu; rfl
      case c3 => unfold maxLen; omega
      case c4 => omega
      case c5 => simp; omega
      intro v' w5 hown5 hgrow5 hv5
      have hbel5 : Below w.heap.size w w5 := (HB.out.alloc hsz _).grown hgrow5 (by simp; omega) (fun j hj => (HLT.out j hj).1)
      rw [← HT.out] at hown5
      have HO5 := Lib.hid hown5
      have HB5 := Lib.hid hbel5
      clear hown5 hgrow5 hv5 hown hbel5
      go_wp2
      go_roundw
      case rel => exact ⟨k + 1, by go_num, by omega, HO5.out, HB5.out⟩
      case measure => simp [intOf]; omega
    · obtain rfl : k = l.length := by omega
      rw [List.take_length] at hown
      have HO := Lib.hid hown
      have HB := Lib.hid hbel
      clear hown hbel
      go_wp2
      go_ret
      exact ⟨_, rfl, HO.out, HB.out⟩
theorem row_lessK {w : World} {B B' : Nat} {e : TypeId} {size : Nat} {v : Value} {n : Nat} {xs : List Value} (h : w.ownsRow B e size v n xs) (hb : B' ≤ B) : w.ownsRow B' e size v n xs := by
  rcases h.2 with h0 | ⟨g, cap, cur, h1, h2, h3⟩
  · exact ⟨h.1, Or.inl h0⟩
  · exact ⟨h.1, Or.inr ⟨g, cap, cur, h1, Nat.le_trans hb h2, h3⟩⟩
theorem row_shapeK {w : World} {B : Nat} {e : TypeId} {size : Nat} {v : Value} {n : Nat} {xs : List Value} (h : w.ownsRow B e size v n xs) : ∃ a c, v = .slice a n c := by
  rcases h.2 with ⟨rfl, h0⟩ | ⟨b, cap, cur, rfl, _⟩
  · exact ⟨none, 0, by rw [h0]⟩
  · exact ⟨_, _, rfl⟩
theorem ShapeT.front {w : World} {a : Option Addr} {n c : Nat} {R : List Nm} {x : Nm} (h : ShapeT w (.slice a n c) (R ++ [x])) : ShapeT w (.slice a R.length c) R := by
  obtain ⟨a', c', e, h2⟩ := h
  simp only [Value.slice.injEq] at e
  obtain ⟨rfl, -, rfl⟩ := e
  exact ⟨_, _, rfl, fun k y hy => h2 k y (by rw [List.getElem?_append_left ((List.getElem?_eq_some_iff.1 hy).1)]; exact hy)⟩
theorem ShapeT.lastCell {w : World} {a : Option Addr} {n c : Nat} {R : List Nm} {x : Nm} (h : ShapeT w (.slice a n c) (R ++ [x])) : ∃ b off, a = some ⟨b, off, none⟩ ∧ w.cell? ⟨b, off + R.length, none⟩ = some (strV x) := by
  obtain ⟨a', c', e, h2⟩ := h
  simp only [Value.slice.injEq] at e
  obtain ⟨rfl, -, rfl⟩ := e
  exact h2 R.length x (by simp)
/-- What a book tells when it is asked. -/
def BkOk (R L : List Nm) (more : Bool) (rec : Nm) (no : Bool) : Prop := L = R ∨ (L ≠ R ∧ more = true ∧ L = R ++ [rec]) ∨ (L ≠ R ∧ more = false ∧ no = true ∧ L = [])
/-- Behind right: the book holds these records alone. -/
def RightPost (w : World) (bb B0 : Nat) (L : List Nm) (e : Ending) (w' : World) : Prop :=
  e = .returned (.bool true) ∧ ∃ vb, Blk w' bb [vb, .bool false, strV [], .bool false] 76 ∧ w'.ownsRow B0 9 1 vb L.length (L.map strV) ∧ (∀ k, vb.ownBlock = some k → w.heap.size ≤ k) ∧ Stp [bb] (bb :: vb.ownBlock.toList) w w'
theorem right_fin {w w2 : World} {bb B0 : Nat} {cs : List Value} {L : List Nm} {vb : Value} (hx : Blk w bb cs 76) (hc : cs.length = 4) (hb : Below w.heap.size w w2) (ho : w2.ownsRow w.heap.size 9 1 vb L.length (L.map strV)) (hB : B0 ≤ w.heap.size) :
    RightPost w bb B0 L (.returned (.bool true)) ((((w2.setCell ⟨bb, 0, none⟩ vb).setCell ⟨bb, 1, none⟩ (.bool false)).setCell ⟨bb, 2, none⟩ (strV [])).setCell ⟨bb, 3, none⟩ (.bool false)) := by
  obtain ⟨x0, x1, x2, x3, rfl⟩ : ∃ a b c d, cs = [a, b, c, d] := by
    match cs, hc with
    | [a, b, c, d], _ => exact ⟨a, b, c, d, rfl⟩
  have hbb := hx.lt
  have hne : ∀ k, vb.ownBlock = some k → k ≠ bb := fun k hk e => by have := (ho.lt k hk).1; omega
  have hs : ∀ k, k ≠ bb → ((((w2.setCell ⟨bb, 0, none⟩ vb).setCell ⟨bb, 1, none⟩ (.bool false)).setCell ⟨bb, 2, none⟩ (strV [])).setCell ⟨bb, 3, none⟩ (.bool false)).heap[k]? = w2.heap[k]? := fun k hk => (heap_setCell_other _ _ _ _ hk).trans ((heap_setCell_other _ _ _ _ hk).trans ((heap_setCell_other _ _ _ _ hk).trans (heap_setCell_other _ _ _ _ hk)))
  refine ⟨rfl, vb, ((((hx.below hb hbb).set 0 vb).set 1 (.bool false)).set 2 (strV [])).set 3 (.bool false), (ownsRow_same ho fun k hk => hs k (hne k hk)) |> fun h => ?_, fun k hk => (ho.lt k hk).1, ?_⟩
  · rcases h.2 with h0 | ⟨g, cap, cur, h1, h2, h3⟩
    · exact ⟨h.1, Or.inl h0⟩
    · exact ⟨h.1, Or.inr ⟨g, cap, cur, h1, Nat.le_trans hB h2, h3⟩⟩
  · refine ⟨hb.os, hb.tape, hb.output, by simpa [World.setCell] using hb.size, fun k hk hn => (hs k (by simpa using hn)).trans (hb.block k hk), fun k hk => ?_⟩
    rcases List.mem_cons.1 hk with rfl | hk
    · exact Or.inl (by simp)
    · exact Or.inr (ho.lt k (by simpa using hk)).1
set_option maxHeartbeats 4000000 in
set_option maxRecDepth 100000 in
theorem right_any (w : World) (bb B0 : Nat) (va v : Value) (R L : List Nm) (more : Bool) (rec : Nm) (no : Bool) (hx : Blk w bb [va, .bool more, strV rec, .bool no] 76) (hva : ShapeT w va R) (hv : ShapeT w v L) (hcap : CapOk v) (hB : B0 ≤ w.heap.size) (hR : R.length ≤ 4294967295) (hL : L.length ≤ 4294967295) (hok : BkOk R L more rec no) :
    Calls Tryz.prog 51 #[.pointer (some ⟨bb, 0, none⟩), v] w (RightPost w bb B0 L) := by
  have c0 := hx.cell 0
  have c1 := hx.cell 1
  have c2 := hx.cell 2
  have c3 := hx.cell 3
  have f0 := hx.free 0
  have f1 := hx.free 1
  have f2 := hx.free 2
  have f3 := hx.free 3
  simp only [List.getElem?_cons_zero, List.getElem?_cons_succ] at c0 c1 c2 c3
  have hlx := hx.lt
  have hST := (SameTexts_sh w v va L R hv hva (by omega) (by omega)).mono fun e w' ⟨he, q, hq⟩ => (⟨he, hq ▸ below_drewN (Below.refl _ _) q⟩ : e = Ending.returned (.bool (decide (L = R))) ∧ Below w.heap.size w w')
  have hCT := fun W (hb : Below w.heap.size w W) => CopyTexts_any W v L (hv.below hb) (by omega)
  have HX := Lib.hid hx
  have HST := Lib.hid hST
  have HCT := Lib.hid hCT
  have HV := Lib.hid hv
  have HVA := Lib.hid hva
  obtain ⟨a1, k1, rfl, -⟩ := hv
  obtain ⟨a2, k2, rfl, -⟩ := hva
  clear hx hST hCT
  rcases hok with rfl | ⟨hne, rfl, rfl⟩ | ⟨hne, rfl, rfl, rfl⟩
  · have hd : decide (L = L) = true := by simp
    rw [hd] at HST
    go_enter Tryz.func51, Tryz.ntmps51
    go_wp2_with (fail)
    refine HST.out.mono ?_
    rintro e w1 ⟨rfl, hb1⟩
    have d0 := (hb1.cell (p := ⟨bb, 0, none⟩) hlx).trans c0
    have d1 := (hb1.cell (p := ⟨bb, 1, none⟩) hlx).trans c1
    have d2 := (hb1.cell (p := ⟨bb, 2, none⟩) hlx).trans c2
    have d3 := (hb1.cell (p := ⟨bb, 3, none⟩) hlx).trans c3
    have HC2 := Lib.hid (HCT.out w1 hb1)
    have HB1 := Lib.hid hb1
    clear hb1 HST HCT
    go_wp2_with (fail)
    refine HC2.out.mono ?_
    rintro e w2 ⟨vb, rfl, ho, hb2⟩
    have hb02 := HB1.out.trans (hb2.mono HB1.out.size)
    have g0 := (hb02.frozen (p := ⟨bb, 0, none⟩) hlx).trans f0
    have g1 := (hb02.frozen (p := ⟨bb, 1, none⟩) hlx).trans f1
    have g2 := (hb02.frozen (p := ⟨bb, 2, none⟩) hlx).trans f2
    have g3 := (hb02.frozen (p := ⟨bb, 3, none⟩) hlx).trans f3
    have e0 := (hb02.cell (p := ⟨bb, 0, none⟩) hlx).trans c0
    have e1 := (hb02.cell (p := ⟨bb, 1, none⟩) hlx).trans c1
    have e2 := (hb02.cell (p := ⟨bb, 2, none⟩) hlx).trans c2
    have e3 := (hb02.cell (p := ⟨bb, 3, none⟩) hlx).trans c3
    have hfin := right_fin HX.out rfl hb02 (row_lessK ho HB1.out.size) hB
    obtain ⟨va2, vc2, hve⟩ := row_shapeK ho
    subst hve
    have HFIN := Lib.hid hfin
    clear hfin ho hb2 hb02 HB1 HC2
    go_wp2
    go_ret
    exact HFIN.out
  · have hd : decide (R ++ [rec] = R) = false := by simp
    rw [hd] at HST
    have hs2 : ∀ W, Below w.heap.size w W → Calls Tryz.prog 69 #[.slice a1 R.length k1, .slice a2 R.length k2] W fun e w' => e = .returned (.bool true) ∧ ∃ q, w' = W.drewN q := fun W hb => (SameTexts_sh W _ _ R R (HV.out.front.below hb) (HVA.out.below hb) (by omega) (by omega)).mono fun e w' ⟨he, hq⟩ => ⟨by rw [he]; simp, hq⟩
    have HS2 := Lib.hid hs2
    clear hs2
    obtain ⟨lb, lo, hla, hlc⟩ := HV.out.lastCell
    subst hla
    have hlen : (R ++ [rec]).length = R.length + 1 := by simp
    have hcp := hcap _ _ _ rfl
    rw [hlen] at hcp
    have HFINL := Lib.hid hlen
    rw [hlen] at HST HCT ⊢
    have hllt := World.block_lt_of_cell? w _ hlc
    clear hlen HV HVA
    generalize hm : R.length = m at *
    have hml : m ≤ 4294967295 := by omega
    have hw1 : IntKind.i64.wrap ((m : Int) + 1) = (m : Int) + 1 := IntWalk.i64_in _ (by omega)
    have hw2 : IntKind.i64.wrap ((m : Int) + 1 - 1) = (m : Int) := by rw [IntWalk.i64_in _ (by omega)]; omega
    have hw3 : IntKind.i64.wrap (m : Int) = (m : Int) := IntWalk.i64_in _ (by omega)
    have hw4 : IntKind.i64.wrap (((m + 1 : Nat) : Int) - 1) = (m : Int) := by rw [IntWalk.i64_in _ (by omega)]; omega
    have hq1 : (((m : Int) + 1) == ((m : Int) + 1)) = true := by simp
    have ik0 : (0 : Int) ≤ (m : Int) := by omega
    have ik1 : (m : Int) < (m : Int) + 1 := by omega
    have ik2 : (m : Int) ≤ (k1 : Int) := by omega
    have ik3 : ((m : Int)).toNat = m := by omega
    have hqs : ((str rec).toList == (str rec).toList) = true := by simp
    go_enter Tryz.func51, Tryz.ntmps51
    go_wp2_with (fail)
    refine HST.out.mono ?_
    rintro e w1 ⟨rfl, hb1⟩
    have d0 := (hb1.cell (p := ⟨bb, 0, none⟩) hlx).trans c0
    have d1 := (hb1.cell (p := ⟨bb, 1, none⟩) hlx).trans c1
    have d2 := (hb1.cell (p := ⟨bb, 2, none⟩) hlx).trans c2
    have d3 := (hb1.cell (p := ⟨bb, 3, none⟩) hlx).trans c3
    have dl := (hb1.cell (p := ⟨lb, lo + m, none⟩) hllt).trans hlc
    have HB0 := Lib.hid hb1
    clear hb1
    go_upto_region 3 with (fail)
    go_quiet (first | (go_at_call 69; exact Calls.quiet_of (HS2.out _ (below_drewN HB0.out _))))
    all_goals
      have hb1 := below_drewN HB0.out nq
      generalize w1.drewN nq = w5 at *
      have d3 := (hb1.cell (p := ⟨bb, 3, none⟩) hlx).trans c3
      have HC2 := Lib.hid (HCT.out w5 hb1)
      have HB1 := Lib.hid hb1
      clear hb1 HST HCT
      go_wp2_with (fail)
      refine HC2.out.mono ?_
      rintro e w2 ⟨vb, rfl, ho, hb2⟩
      have hb02 := HB1.out.trans (hb2.mono HB1.out.size)
      have g0 := (hb02.frozen (p := ⟨bb, 0, none⟩) hlx).trans f0
      have g1 := (hb02.frozen (p := ⟨bb, 1, none⟩) hlx).trans f1
      have g2 := (hb02.frozen (p := ⟨bb, 2, none⟩) hlx).trans f2
      have g3 := (hb02.frozen (p := ⟨bb, 3, none⟩) hlx).trans f3
      have e0 := (hb02.cell (p := ⟨bb, 0, none⟩) hlx).trans c0
      have e1 := (hb02.cell (p := ⟨bb, 1, none⟩) hlx).trans c1
      have e2 := (hb02.cell (p := ⟨bb, 2, none⟩) hlx).trans c2
      have e3 := (hb02.cell (p := ⟨bb, 3, none⟩) hlx).trans c3
      have hfin := right_fin (L := R ++ [rec]) HX.out rfl hb02 (by rw [HFINL.out]; exact row_lessK ho HB1.out.size) hB
      obtain ⟨va2, vc2, hve⟩ := row_shapeK ho
      subst hve
      have HFIN := Lib.hid hfin
      clear hfin ho hb2 hb02 HB1 HC2
      go_wp2
      go_ret
      exact HFIN.out
  · have hd : decide (([] : List Nm) = R) = false := by simpa using hne
    rw [hd] at HST
    go_enter Tryz.func51, Tryz.ntmps51
    go_wp2_with (fail)
    refine HST.out.mono ?_
    rintro e w1 ⟨rfl, hb1⟩
    have d0 := (hb1.cell (p := ⟨bb, 0, none⟩) hlx).trans c0
    have d1 := (hb1.cell (p := ⟨bb, 1, none⟩) hlx).trans c1
    have d2 := (hb1.cell (p := ⟨bb, 2, none⟩) hlx).trans c2
    have d3 := (hb1.cell (p := ⟨bb, 3, none⟩) hlx).trans c3
    have HC2 := Lib.hid (HCT.out w1 hb1)
    have HB1 := Lib.hid hb1
    clear hb1 HST HCT
    go_wp2_with (fail)
    refine HC2.out.mono ?_
    rintro e w2 ⟨vb, rfl, ho, hb2⟩
    have hb02 := HB1.out.trans (hb2.mono HB1.out.size)
    have g0 := (hb02.frozen (p := ⟨bb, 0, none⟩) hlx).trans f0
    have g1 := (hb02.frozen (p := ⟨bb, 1, none⟩) hlx).trans f1
    have g2 := (hb02.frozen (p := ⟨bb, 2, none⟩) hlx).trans f2
    have g3 := (hb02.frozen (p := ⟨bb, 3, none⟩) hlx).trans f3
    have e0 := (hb02.cell (p := ⟨bb, 0, none⟩) hlx).trans c0
    have e1 := (hb02.cell (p := ⟨bb, 1, none⟩) hlx).trans c1
    have e2 := (hb02.cell (p := ⟨bb, 2, none⟩) hlx).trans c2
    have e3 := (hb02.cell (p := ⟨bb, 3, none⟩) hlx).trans c3
    have hfin := right_fin HX.out rfl hb02 (row_lessK ho HB1.out.size) hB
    obtain ⟨va2, vc2, hve⟩ := row_shapeK ho
    subst hve
    have HFIN := Lib.hid hfin
    clear hfin ho hb2 hb02 HB1 HC2
    go_wp2
    go_ret
    exact HFIN.out
end Go.Proofs.YtfgpigblnkanpaaGreatDoor
