/- What is known of a journal: the walk of right. The walk of the statements' Pick. What is known of a journal: the walk of called; a journal in memory beside a book. -/
import Derived.Test.YtfgpigblnkanpaaGreatDoorHK
import Derived.Test.YtfgpigblnkanpaaGreatDoorGP
import Derived.Test.YtfgpigblnkanpaaGreatDoorGF
import Derived.Deep.RegionWith
import Derived.Deep.AppendLies
import Derived.Deep.RegionLaw
import Derived.BigQuiet
import Derived.Test.YtfgpigblnkanpaaGreatDoorB
import Derived.RowKitTokens
namespace Go.Proofs.YtfgpigblnkanpaaGreatDoor
open Go.RowKit Go.Maps Go.Shelf
set_option linter.unusedVariables false
set_option linter.unusedSimpArgs false

theorem infoStrK : (Tryz.prog.info? 9).map (fun i => (i.zero, i.size, i.bytes)) = some (some (strV []), 1, 16) := by kernel_rfl
set_option maxHeartbeats 1000000 in
set_option maxRecDepth 100000 in
theorem Plain_other (no m : Nat) (w : World) (h1 : 1 ≤ no) (h : no ≤ 25) (hne : no ≠ m) : Calls Tryz.prog 28 #[errV no, .int .i64 m] w fun e w' => e = .returned (.bool false) ∧ Below w.heap.size w w' := by
  have hnum := fun w => Num_errno no w h1 h
  rw [errV_some (by omega)] at hnum ⊢
  have HN := Lib.hid hnum
  have hq : ((no : Int) == (m : Int)) = false := by simp; omega
  have hB0 := (Below.refl w.heap.size w).alloc (Nat.le_refl _) (.cells #[.int .i64 0, .int .i64 0, .int .i64 0] 135)
  clear hnum
  go_enter Tryz.func28, Tryz.ntmps28
  go_wp2_with (fail)
  refine (HN.out _).mono ?_
  rintro e w1 ⟨rfl, hb1⟩
  have hB := hB0.trans (hb1.mono (by simp))
  have HB := Lib.hid hB
  clear hB hb1 hB0
  go_wp2
  go_ret
  exact ⟨rfl, HB.out⟩
set_option maxHeartbeats 2000000 in
set_option maxRecDepth 100000 in
theorem CopyTexts_any (w : World) (v : Value) (l : List Nm) (h : ShapeT w v l) (hl : l.length ≤ 4294967296) : Calls Tryz.prog 107 #[v] w fun e w' => ∃ v', e = .returned v' ∧ w'.ownsRow w.heap.size 9 1 v' l.length (l.map strV) ∧ Below w.heap.size w w' := by
  obtain ⟨i0, hi, hz0, hz1, hz2⟩ := info_parts infoStrK
  obtain ⟨ka, kc, rfl, hx⟩ := h
  have HI := Lib.hid hx
  clear hx
  go_enter Tryz.func107, Tryz.ntmps107
  go_wp2_with (fail)
  go_loopw [3, 4] (fun u iv wr => ∃ k : Nat, iv = .int .i64 k ∧ k ≤ l.length ∧ wr.ownsRow w.heap.size 9 1 u k ((l.take k).map strV) ∧ Below w.heap.size w wr) (fun _ iv _ => l.length - (intOf iv).toNat)
  case atStart => exact ⟨0, rfl, Nat.zero_le _, World.ownsRow_nil _ _ _ _, Below.refl _ _⟩
  case round =>
    obtain ⟨k, rfl, hk, hown, hbel⟩ := hrel
    have hsz := hbel.size
    by_cases hlt : k < l.length
    · obtain ⟨x, hx⟩ : ∃ x, l[k]? = some x := ⟨_, List.getElem?_eq_getElem hlt⟩
      obtain ⟨b, off, rfl, hcw⟩ := HI.out k x hx
      have hcr := (hbel.cell (World.block_lt_of_cell? w _ hcw)).trans hcw
      have ht : (l.take (k + 1)).map strV = (l.take k).map strV ++ [strV x] := by rw [List.take_add_one, hx]; simp
      have HT := Lib.hid ht
      have ik0 : (0 : Int) ≤ (k : Int) := by omega
      have ik1 : (k : Int) < (l.length : Int) := by omega
      have HB := Lib.hid hbel
      have HLT := Lib.hid hown.lt
      clear hx hcw ht hbel
      generalize (l.take k).map strV = xs at *
      go_wp2_with (at_builtin; refine wpList_append_own _ rfl _ _ 37 rfl w.heap.size 9 i0 (strV []) 1 16 Tryz.underlying37 hi hz0 hz1 hz2 rfl (by decide) _ k xs rfl (hown.alloc _) ⟨wr.heap.size, 0, none⟩ 1 1 [strV x] rfl rfl ?c1 ?c2 ?c3 ?c4 ?c5 ?_)
      case c1 => exact World.news_of_block (cs := #[strV x]) (t := 9) (fr := (0, 0)) (heap_alloc_new wr _)
      case c2 => intro u hu; simp at hu; subst hu; rfl
      case c3 => unfold maxLen; omega
      case c4 => omega
      case c5 => simp; omega
      intro v' w5 hown5 hgrow5 hv5
      have hbel5 : Below w.heap.size w w5 := (HB.out.alloc hsz _).grown hgrow5 (by simp; omega) (fun j hj => (HLT.out j hj).1)
      rw [← HT.out] at hown5
      have HO5 := Lib.hid hown5
      have HB5 := Lib.hid hbel5
      clear hown5 hgrow5 hv5 hown hbel5
      go_wp2
      go_roundw
      case rel => exact ⟨k + 1, by go_num, by omega, HO5.out, HB5.out⟩
      case measure => simp [intOf]; omega
    · obtain rfl : k = l.length := by omega
      rw [List.take_length] at hown
      have HO := Lib.hid hown
      have HB := Lib.hid hbel
      clear hown hbel
      go_wp2
      go_ret
      exact ⟨_, rfl, HO.out, HB.out⟩
theorem row_lessK {w : World} {B B' : Nat} {e : TypeId} {size : Nat} {v : Value} {n : Nat} {xs : List Value} (h : w.ownsRow B e size v n xs) (hb : B' ≤ B) : w.ownsRow B' e size v n xs := by
  rcases h.2 with h0 | ⟨g, cap, cur, h1, h2, h3⟩
  · exact ⟨h.1, Or.inl h0⟩
  · exact ⟨h.1, Or.inr ⟨g, cap, cur, h1, Nat.le_trans hb h2, h3⟩⟩
theorem row_shapeK {w : World} {B : Nat} {e : TypeId} {size : Nat} {v : Value} {n : Nat} {xs : List Value} (h : w.ownsRow B e size v n xs) : ∃ a c, v = .slice a n c := by
  rcases h.2 with ⟨rfl, h0⟩ | ⟨b, cap, cur, rfl, _⟩
  · exact ⟨none, 0, by rw [h0]⟩
  · exact ⟨_, _, rfl⟩
theorem ShapeT.front {w : World} {a : Option Addr} {n c : Nat} {R : List Nm} {x : Nm} (h : ShapeT w (.slice a n c) (R ++ [x])) : ShapeT w (.slice a R.length c) R := by
  obtain ⟨a', c', e, h2⟩ := h
  simp only [Value.slice.injEq] at e
  obtain ⟨rfl, -, rfl⟩ := e
  exact ⟨_, _, rfl, fun k y hy => h2 k y (by rw [List.getElem?_append_left ((List.getElem?_eq_some_iff.1 hy).1)]; exact hy)⟩
theorem ShapeT.lastCell {w : World} {a : Option Addr} {n c : Nat} {R : List Nm} {x : Nm} (h : ShapeT w (.slice a n c) (R ++ [x])) : ∃ b off, a = some ⟨b, off, none⟩ ∧ w.cell? ⟨b, off + R.length, none⟩ = some (strV x) := by
  obtain ⟨a', c', e, h2⟩ := h
  simp only [Value.slice.injEq] at e
  obtain ⟨rfl, -, rfl⟩ := e
  exact h2 R.length x (by simp)
/-- What a book tells when it is asked. -/
def BkOk (R L : List Nm) (more : Bool) (rec : Nm) (no : Bool) : Prop := L = R ∨ (L ≠ R ∧ more = true ∧ L = R ++ [rec]) ∨ (L ≠ R ∧ more = false ∧ no = true ∧ L = [])
/-- Behind right: the book holds these records alone. -/
def RightPost (w : World) (bb B0 : Nat) (L : List Nm) (e : Ending) (w' : World) : Prop :=
  e = .returned (.bool true) ∧ ∃ vb, Blk w' bb [vb, .bool false, strV [], .bool false] 76 ∧ w'.ownsRow B0 9 1 vb L.length (L.map strV) ∧ (∀ k, vb.ownBlock = some k → w.heap.size ≤ k) ∧ Stp [bb] (bb :: vb.ownBlock.toList) w w'
theorem right_fin {w w2 : World} {bb B0 : Nat} {cs : List Value} {L : List Nm} {vb : Value} (hx : Blk w bb cs 76) (hc : cs.length = 4) (hb : Below w.heap.size w w2) (ho : w2.ownsRow w.heap.size 9 1 vb L.length (L.map strV)) (hB : B0 ≤ w.heap.size) :
    RightPost w bb B0 L (.returned (.bool true)) ((((w2.setCell ⟨bb, 0, none⟩ vb).setCell ⟨bb, 1, none⟩ (.bool false)).setCell ⟨bb, 2, none⟩ (strV [])).setCell ⟨bb, 3, none⟩ (.bool false)) := by
  obtain ⟨x0, x1, x2, x3, rfl⟩ : ∃ a b c d, cs = [a, b, c, d] := by
    match cs, hc with
    | [a, b, c, d], _ => exact ⟨a, b, c, d, rfl⟩
  have hbb := hx.lt
  have hne : ∀ k, vb.ownBlock = some k → k ≠ bb := fun k hk e => by have := (ho.lt k hk).1; omega
  have hs : ∀ k, k ≠ bb → ((((w2.setCell ⟨bb, 0, none⟩ vb).setCell ⟨bb, 1, none⟩ (.bool false)).setCell ⟨bb, 2, none⟩ (strV [])).setCell ⟨bb, 3, none⟩ (.bool false)).heap[k]? = w2.heap[k]? := fun k hk => (heap_setCell_other _ _ _ _ hk).trans ((heap_setCell_other _ _ _ _ hk).trans ((heap_setCell_other _ _ _ _ hk).trans (heap_setCell_other _ _ _ _ hk)))
  refine ⟨rfl, vb, ((((hx.below hb hbb).set 0 vb).set 1 (.bool false)).set 2 (strV [])).set 3 (.bool false), (ownsRow_same ho fun k hk => hs k (hne k hk)) |> fun h => ?_, fun k hk => (ho.lt k hk).1, ?_⟩
  · rcases h.2 with h0 | ⟨g, cap, cur, h1, h2, h3⟩
    · exact ⟨h.1, Or.inl h0⟩
    · exact ⟨h.1, Or.inr ⟨g, cap, cur, h1, Nat.le_trans hB h2, h3⟩⟩
  · refine ⟨hb.os, hb.tape, hb.output, by simpa [World.setCell] using hb.size, fun k hk hn => (hs k (by simpa using hn)).trans (hb.block k hk), fun k hk => ?_⟩
    rcases List.mem_cons.1 hk with rfl | hk
    · exact Or.inl (by simp)
    · exact Or.inr (ho.lt k (by simpa using hk)).1
set_option maxHeartbeats 4000000 in
set_option maxRecDepth 100000 in
theorem right_any (w : World) (bb B0 : Nat) (va v : Value) (R L : List Nm) (more : Bool) (rec : Nm) (no : Bool) (hx : Blk w bb [va, .bool more, strV rec, .bool no] 76) (hva : ShapeT w va R) (hv : ShapeT w v L) (hcap : CapOk v) (hB : B0 ≤ w.heap.size) (hR : R.length ≤ 4294967295) (hL : L.length ≤ 4294967295) (hok : BkOk R L more rec no) :
    Calls Tryz.prog 51 #[.pointer (some ⟨bb, 0, none⟩), v] w (RightPost w bb B0 L) := by
  have c0 := hx.cell 0
  have c1 := hx.cell 1
  have c2 := hx.cell 2
  have c3 := hx.cell 3
  have f0 := hx.free 0
  have f1 := hx.free 1
  have f2 := hx.free 2
  have f3 := hx.free 3
  simp only [List.getElem?_cons_zero, List.getElem?_cons_succ] at c0 c1 c2 c3
  have hlx := hx.lt
  have hST := (SameTexts_sh w v va L R hv hva (by omega) (by omega)).mono fun e w' ⟨he, q, hq⟩ => (⟨he, hq ▸ below_drewN (Below.refl _ _) q⟩ : e = Ending.returned (.bool (decide (L = R))) ∧ Below w.heap.size w w')
  have hCT := fun W (hb : Below w.heap.size w W) => CopyTexts_any W v L (hv.below hb) (by omega)
  have HX := Lib.hid hx
  have HST := Lib.hid hST
  have HCT := Lib.hid hCT
  have HV := Lib.hid hv
  have HVA := Lib.hid hva
  obtain ⟨a1, k1, rfl, -⟩ := hv
  obtain ⟨a2, k2, rfl, -⟩ := hva
  clear hx hST hCT
  rcases hok with rfl | ⟨hne, rfl, rfl⟩ | ⟨hne, rfl, rfl, rfl⟩
  · have hd : decide (L = L) = true := by simp
    rw [hd] at HST
    go_enter Tryz.func51, Tryz.ntmps51
    go_wp2_with (fail)
    refine HST.out.mono ?_
    rintro e w1 ⟨rfl, hb1⟩
    have d0 := (hb1.cell (p := ⟨bb, 0, none⟩) hlx).trans c0
    have d1 := (hb1.cell (p := ⟨bb, 1, none⟩) hlx).trans c1
    have d2 := (hb1.cell (p := ⟨bb, 2, none⟩) hlx).trans c2
    have d3 := (hb1.cell (p := ⟨bb, 3, none⟩) hlx).trans c3
    have HC2 := Lib.hid (HCT.out w1 hb1)
    have HB1 := Lib.hid hb1
    clear hb1 HST HCT
    go_wp2_with (fail)
    refine HC2.out.mono ?_
    rintro e w2 ⟨vb, rfl, ho, hb2⟩
    have hb02 := HB1.out.trans (hb2.mono HB1.out.size)
    have g0 := (hb02.frozen (p := ⟨bb, 0, none⟩) hlx).trans f0
    have g1 := (hb02.frozen (p := ⟨bb, 1, none⟩) hlx).trans f1
    have g2 := (hb02.frozen (p := ⟨bb, 2, none⟩) hlx).trans f2
    have g3 := (hb02.frozen (p := ⟨bb, 3, none⟩) hlx).trans f3
    have e0 := (hb02.cell (p := ⟨bb, 0, none⟩) hlx).trans c0
    have e1 := (hb02.cell (p := ⟨bb, 1, none⟩) hlx).trans c1
    have e2 := (hb02.cell (p := ⟨bb, 2, none⟩) hlx).trans c2
    have e3 := (hb02.cell (p := ⟨bb, 3, none⟩) hlx).trans c3
    have hfin := right_fin HX.out rfl hb02 (row_lessK ho HB1.out.size) hB
    obtain ⟨va2, vc2, hve⟩ := row_shapeK ho
    subst hve
    have HFIN := Lib.hid hfin
    clear hfin ho hb2 hb02 HB1 HC2
    go_wp2
    go_ret
    exact HFIN.out
  · have hd : decide (R ++ [rec] = R) = false := by simp
    rw [hd] at HST
    have hs2 : ∀ W, Below w.heap.size w W → Calls Tryz.prog 69 #[.slice a1 R.length k1, .slice a2 R.length k2] W fun e w' => e = .returned (.bool true) ∧ ∃ q, w' = W.drewN q := fun W hb => (SameTexts_sh W _ _ R R (HV.out.front.below hb) (HVA.out.below hb) (by omega) (by omega)).mono fun e w' ⟨he, hq⟩ => ⟨by rw [he]; simp, hq⟩
    have HS2 := Lib.hid hs2
    clear hs2
    obtain ⟨lb, lo, hla, hlc⟩ := HV.out.lastCell
    subst hla
    have hlen : (R ++ [rec]).length = R.length + 1 := by simp
    have hcp := hcap _ _ _ rfl
    rw [hlen] at hcp
    have HFINL := Lib.hid hlen
    rw [hlen] at HST HCT ⊢
    have hllt := World.block_lt_of_cell? w _ hlc
    clear hlen HV HVA
    generalize hm : R.length = m at *
    have hml : m ≤ 4294967295 := by omega
    have hw1 : IntKind.i64.wrap ((m : Int) + 1) = (m : Int) + 1 := IntWalk.i64_in _ (by omega)
    have hw2 : IntKind.i64.wrap ((m : Int) + 1 - 1) = (m : Int) := by rw [IntWalk.i64_in _ (by omega)]; omega
    have hw3 : IntKind.i64.wrap (m : Int) = (m : Int) := IntWalk.i64_in _ (by omega)
    have hw4 : IntKind.i64.wrap (((m + 1 : Nat) : Int) - 1) = (m : Int) := by rw [IntWalk.i64_in _ (by omega)]; omega
    have hq1 : (((m : Int) + 1) == ((m : Int) + 1)) = true := by simp
    have ik0 : (0 : Int) ≤ (m : Int) := by omega
    have ik1 : (m : Int) < (m : Int) + 1 := by omega
    have ik2 : (m : Int) ≤ (k1 : Int) := by omega
    have ik3 : ((m : Int)).toNat = m := by omega
    have hqs : ((str rec).toList == (str rec).toList) = true := by simp
    go_enter Tryz.func51, Tryz.ntmps51
    go_wp2_with (fail)
    refine HST.out.mono ?_
    rintro e w1 ⟨rfl, hb1⟩
    have d0 := (hb1.cell (p := ⟨bb, 0, none⟩) hlx).trans c0
    have d1 := (hb1.cell (p := ⟨bb, 1, none⟩) hlx).trans c1
    have d2 := (hb1.cell (p := ⟨bb, 2, none⟩) hlx).trans c2
    have d3 := (hb1.cell (p := ⟨bb, 3, none⟩) hlx).trans c3
    have dl := (hb1.cell (p := ⟨lb, lo + m, none⟩) hllt).trans hlc
    have HB0 := Lib.hid hb1
    clear hb1
    go_upto_region 3 with (fail)
    go_quiet (first | (go_at_call 69; exact Calls.quiet_of (HS2.out _ (below_drewN HB0.out _))))
    all_goals
      have hb1 := below_drewN HB0.out nq
      generalize w1.drewN nq = w5 at *
      have d3 := (hb1.cell (p := ⟨bb, 3, none⟩) hlx).trans c3
      have HC2 := Lib.hid (HCT.out w5 hb1)
      have HB1 := Lib.hid hb1
      clear hb1 HST HCT
      go_wp2_with (fail)
      refine HC2.out.mono ?_
      rintro e w2 ⟨vb, rfl, ho, hb2⟩
      have hb02 := HB1.out.trans (hb2.mono HB1.out.size)
      have g0 := (hb02.frozen (p := ⟨bb, 0, none⟩) hlx).trans f0
      have g1 := (hb02.frozen (p := ⟨bb, 1, none⟩) hlx).trans f1
      have g2 := (hb02.frozen (p := ⟨bb, 2, none⟩) hlx).trans f2
      have g3 := (hb02.frozen (p := ⟨bb, 3, none⟩) hlx).trans f3
      have e0 := (hb02.cell (p := ⟨bb, 0, none⟩) hlx).trans c0
      have e1 := (hb02.cell (p := ⟨bb, 1, none⟩) hlx).trans c1
      have e2 := (hb02.cell (p := ⟨bb, 2, none⟩) hlx).trans c2
      have e3 := (hb02.cell (p := ⟨bb, 3, none⟩) hlx).trans c3
      have hfin := right_fin (L := R ++ [rec]) HX.out rfl hb02 (by rw [HFINL.out]; exact row_lessK ho HB1.out.size) hB
      obtain ⟨va2, vc2, hve⟩ := row_shapeK ho
      subst hve
      have HFIN := Lib.hid hfin
      clear hfin ho hb2 hb02 HB1 HC2
      go_wp2
      go_ret
      exact HFIN.out
  · have hd : decide (([] : List Nm) = R) = false := by simpa using hne
    rw [hd] at HST
    go_enter Tryz.func51, Tryz.ntmps51
    go_wp2_with (fail)
    refine HST.out.mono ?_
    rintro e w1 ⟨rfl, hb1⟩
    have d0 := (hb1.cell (p := ⟨bb, 0, none⟩) hlx).trans c0
    have d1 := (hb1.cell (p := ⟨bb, 1, none⟩) hlx).trans c1
    have d2 := (hb1.cell (p := ⟨bb, 2, none⟩) hlx).trans c2
    have d3 := (hb1.cell (p := ⟨bb, 3, none⟩) hlx).trans c3
    have HC2 := Lib.hid (HCT.out w1 hb1)
    have HB1 := Lib.hid hb1
    clear hb1 HST HCT
    go_wp2_with (fail)
    refine HC2.out.mono ?_
    rintro e w2 ⟨vb, rfl, ho, hb2⟩
    have hb02 := HB1.out.trans (hb2.mono HB1.out.size)
    have g0 := (hb02.frozen (p := ⟨bb, 0, none⟩) hlx).trans f0
    have g1 := (hb02.frozen (p := ⟨bb, 1, none⟩) hlx).trans f1
    have g2 := (hb02.frozen (p := ⟨bb, 2, none⟩) hlx).trans f2
    have g3 := (hb02.frozen (p := ⟨bb, 3, none⟩) hlx).trans f3
    have e0 := (hb02.cell (p := ⟨bb, 0, none⟩) hlx).trans c0
    have e1 := (hb02.cell (p := ⟨bb, 1, none⟩) hlx).trans c1
    have e2 := (hb02.cell (p := ⟨bb, 2, none⟩) hlx).trans c2
    have e3 := (hb02.cell (p := ⟨bb, 3, none⟩) hlx).trans c3
    have hfin := right_fin HX.out rfl hb02 (row_lessK ho HB1.out.size) hB
    obtain ⟨va2, vc2, hve⟩ := row_shapeK ho
    subst hve
    have HFIN := Lib.hid hfin
    clear hfin ho hb2 hb02 HB1 HC2
    go_wp2
    go_ret
    exact HFIN.out
end Go.Proofs.YtfgpigblnkanpaaGreatDoor

namespace Go.Proofs.YtfgpigblnkanpaaGreatDoor
open Go.RowKit
set_option maxRecDepth 100000 in
theorem Pick_any (k : Int) (n : Nat) (w : World) (hn : 1 ≤ n) (hs : n ≤ 140737488351232) : Calls Tryz.prog 25 #[.int .i64 k, .int .i64 n] w fun e w' => e = .returned (.int .i64 (k % n)) ∧ w = w' := by
  have hb1 : -(n : Int) < k.tmod n := by have := Int.lt_tmod_of_pos k (b := n) (by omega); omega
  have hb2 : k.tmod n < n := Int.tmod_lt_of_pos k (by omega)
  have he : k % n = if k.tmod n < 0 then k.tmod n + n else k.tmod n := by
    have h1 := Int.tmod_eq_emod (a := k) (b := n)
    rw [Int.natAbs_natCast] at h1
    have h2 := Int.emod_nonneg k (b := n) (by omega)
    have h3 := Int.emod_lt_of_pos k (b := n) (by omega)
    split
    · rename_i h
      split at h1 <;> omega
    · rename_i h
      split at h1 <;> omega
  have HE := Lib.hid he
  clear he
  by_cases h : k.tmod n < 0
  · go_enter Tryz.func25, Tryz.ntmps25
    go_wp2
    go_ret
    exact ⟨congrArg Ending.returned (int_eq (by rw [HE.out, if_pos h])), rfl⟩
  · go_enter Tryz.func25, Tryz.ntmps25
    go_wp2
    go_ret
    exact ⟨congrArg Ending.returned (int_eq (by rw [HE.out, if_neg (by omega)])), rfl⟩
end Go.Proofs.YtfgpigblnkanpaaGreatDoor

namespace Go.Proofs.YtfgpigblnkanpaaGreatDoor
open Go.RowKit Go.Maps Go.Shelf
set_option linter.unusedVariables false
set_option linter.unusedSimpArgs false

/-- A call. -/
structure Ac where
  kind : Int
  text : Nm
  n : Int
  keep : List Int
def Ac.cells (a : Ac) (kv : Value) : List Value := [.int .i64 a.kind, strV a.text, .int .i64 a.n, kv]
/-- Behind called. -/
def CalledPost (w : World) (bb B0 : Nat) (va : Value) (R : List Nm) (more : Bool) (rec : Nm) (no : Bool) (e : Ending) (w' : World) : Prop :=
  e = .returned (.tuple #[]) ∧ ∃ vb, Blk w' bb [vb, .bool more, strV rec, .bool no] 76 ∧ w'.ownsRow B0 9 1 vb R.length (R.map strV) ∧ (∀ k, vb.ownBlock = some k → k ≠ bb) ∧ Stp (bb :: va.ownBlock.toList) (bb :: vb.ownBlock.toList) w w'
theorem Blk.stpBox {w : World} {b : Nat} {xs : List Value} {t : TypeId} (h : Blk w b xs t) (O : Obj) : Blk (w.alloc O) b xs t := h.alloc O
/-- Stores in a book alone. -/
theorem called_put {w w' : World} {bb B0 : Nat} {va vb : Value} {R' : List Nm} {more : Bool} {rec : Nm} {no : Bool} {O : Obj} (hb' : Blk w' bb [vb, .bool more, strV rec, .bool no] 76) (hlt : bb < w.heap.size) (hs : ∀ k, k ≠ bb → w'.heap[k]? = (w.alloc O).heap[k]?) (hsz : w'.heap.size = w.heap.size + 1) (hos : w'.os = w.os ∧ w'.tape = w.tape ∧ w'.output = w.output)
    (hvb : (vb = va ∧ w.ownsRow B0 9 1 va R'.length (R'.map strV) ∧ (∀ k, va.ownBlock = some k → k ≠ bb)) ∨ (vb = .slice none 0 0 ∧ R' = [])) : CalledPost w bb B0 va R' more rec no (.returned (.tuple #[])) w' := by
  refine ⟨rfl, vb, hb', ?_, ?_, ⟨hos.1, hos.2.1, hos.2.2, by omega, fun k hk hn => ?_, fun k hk => ?_⟩⟩
  · rcases hvb with ⟨rfl, h1, h2⟩ | ⟨rfl, rfl⟩
    · exact ownsRow_same (h1.alloc O) fun k hk => hs k (h2 k hk)
    · exact World.ownsRow_nil _ _ _ _
  · rcases hvb with ⟨rfl, h1, h2⟩ | ⟨rfl, rfl⟩
    · exact h2
    · intro k hk; simp [Value.ownBlock] at hk
  · rw [hs k (fun e => hn (by simp [e]))]
    exact ((Below.refl _ w).alloc (Nat.le_refl _) O).block k hk
  · rcases hvb with ⟨rfl, _, _⟩ | ⟨rfl, _⟩
    · exact Or.inl hk
    · simp [Value.ownBlock] at hk; simp [hk]
set_option maxHeartbeats 4000000 in
set_option maxRecDepth 100000 in
theorem called_reset (w : World) (bb B0 : Nat) (va : Value) (R : List Nm) (a : Ac) (kv : Value) (hkv : ∃ p n c, kv = .slice p n c) (n : Nat) (hn : n = 0 ∨ n = 20) (hk : a.kind % 9 = 2) (hx : Blk w bb [va, .bool false, strV [], .bool false] 76) (ho : w.ownsRow B0 9 1 va R.length (R.map strV)) (hne : ∀ k, va.ownBlock = some k → k ≠ bb) :
    Calls Tryz.prog 46 #[.pointer (some ⟨bb, 0, none⟩), .agg (a.cells kv).toArray, .int .i64 n] w (CalledPost w bb B0 va (if n = 0 then [] else R) false [] (n == 20)) := by
  obtain ⟨kp, kn, kc, rfl⟩ := hkv
  obtain ⟨kind, text, an, keep⟩ := a
  have hlt := hx.lt
  have hx1 := hx.alloc (.cells #[.int .i64 kind, strV text, .int .i64 an, .slice kp kn kc] 81)
  have hy := Blk.new w [.int .i64 kind, strV text, .int .i64 an, .slice kp kn kc] 81
  have y0 := hy.cell 0
  have c0 := hx1.cell 0
  have c3 := hx1.cell 3
  have f0 := hx1.free 0
  have f3 := hx1.free 3
  have hP := Pick_any kind 9 (w.alloc (.cells #[.int .i64 kind, strV text, .int .i64 an, .slice kp kn kc] 81)) (by omega) (by omega)
  have hk9 : kind % ((9 : Nat) : Int) = 2 := hk
  rw [hk9] at hP
  unfold Ac.cells
  simp only at hk ⊢
  simp only [List.getElem?_cons_zero, List.getElem?_cons_succ] at y0 c0 c3
  have HP := Lib.hid hP
  have HX := Lib.hid hx1
  have HO := Lib.hid ho
  have HNE := Lib.hid hne
  clear hP hx hx1 hy ho hne hk hk9
  obtain ⟨ra, rc, rfl⟩ := row_shapeK HO.out
  rcases hn with rfl | rfl
  · have hres := called_put (w := w) (B0 := B0) (va := .slice ra R.length rc) (R' := []) (O := (.cells #[.int .i64 kind, strV text, .int .i64 an, .slice kp kn kc] 81)) ((HX.out.set 0 (.slice none 0 0)).set 3 (.bool false)) hlt (fun k hk => (heap_setCell_other _ _ _ _ hk).trans (heap_setCell_other _ _ _ _ hk)) (by simp [World.setCell]) ⟨rfl, rfl, rfl⟩ (Or.inr ⟨rfl, rfl⟩)
    have HRES := Lib.hid hres
    clear hres
    go_enter Tryz.func46, Tryz.ntmps46
    go_wp2_with (fail)
    refine HP.out.mono ?_
    rintro e w1 ⟨rfl, rfl⟩
    generalize hW1 : w.alloc (.cells #[.int .i64 kind, strV text, .int .i64 an, .slice kp kn kc] 81) = w1 at *
    go_wp2
    go_end0
    exact HRES.out
  · have hres := called_put (w := w) (B0 := B0) (va := .slice ra R.length rc) (R' := R) (O := (.cells #[.int .i64 kind, strV text, .int .i64 an, .slice kp kn kc] 81)) (HX.out.set 3 (.bool true)) hlt (fun k hk => heap_setCell_other _ _ _ _ hk) (by simp [World.setCell]) ⟨rfl, rfl, rfl⟩ (Or.inl ⟨rfl, HO.out, HNE.out⟩)
    have HRES := Lib.hid hres
    clear hres
    go_enter Tryz.func46, Tryz.ntmps46
    go_wp2_with (fail)
    refine HP.out.mono ?_
    rintro e w1 ⟨rfl, rfl⟩
    generalize hW1 : w.alloc (.cells #[.int .i64 kind, strV text, .int .i64 an, .slice kp kn kc] 81) = w1 at *
    go_wp2
    go_end0
    exact HRES.out
set_option maxHeartbeats 4000000 in
set_option maxRecDepth 100000 in
theorem called_app (w : World) (bb B0 : Nat) (va : Value) (R : List Nm) (a : Ac) (kv : Value) (hkv : ∃ p n c, kv = .slice p n c) (n : Nat) (hn : n ≤ 25) (hk : a.kind % 9 = 0) (hx : Blk w bb [va, .bool false, strV [], .bool false] 76) (ho : w.ownsRow B0 9 1 va R.length (R.map strV)) (hne : ∀ k, va.ownBlock = some k → k ≠ bb) (hB : B0 ≤ w.heap.size) (hR : R.length ≤ 4294967295) :
    Calls Tryz.prog 46 #[.pointer (some ⟨bb, 0, none⟩), .agg (a.cells kv).toArray, .int .i64 n] w (CalledPost w bb B0 va (if n = 0 then R ++ [a.text] else R) (n == 20) (if n = 20 then a.text else []) false) := by
  obtain ⟨kp, kn, kc, rfl⟩ := hkv
  obtain ⟨kind, text, an, keep⟩ := a
  have hlt := hx.lt
  have hx1 := hx.alloc (.cells #[.int .i64 kind, strV text, .int .i64 an, .slice kp kn kc] 81)
  have hy := Blk.new w [.int .i64 kind, strV text, .int .i64 an, .slice kp kn kc] 81
  have hbw : Below w.heap.size w (w.alloc (.cells #[.int .i64 kind, strV text, .int .i64 an, .slice kp kn kc] 81)) := (Below.refl _ w).alloc (Nat.le_refl _) _
  have y0 := hy.cell 0
  have y1 := hy.cell 1
  have c0 := hx1.cell 0
  have c1 := hx1.cell 1
  have c2 := hx1.cell 2
  have f1 := hx1.free 1
  have f2 := hx1.free 2
  have hP := Pick_any kind 9 (w.alloc (.cells #[.int .i64 kind, strV text, .int .i64 an, .slice kp kn kc] 81)) (by omega) (by omega)
  have hk9 : kind % ((9 : Nat) : Int) = 0 := hk
  rw [hk9] at hP
  have hoa := ho.alloc (.cells #[.int .i64 kind, strV text, .int .i64 an, .slice kp kn kc] 81)
  unfold Ac.cells
  simp only at hk ⊢
  simp only [List.getElem?_cons_zero, List.getElem?_cons_succ] at y0 y1 c0 c1 c2
  obtain ⟨i0, hi, hz0, hz1, hz2⟩ := info_parts infoStrK
  have HP := Lib.hid hP
  have HX := Lib.hid hx1
  have HO := Lib.hid ho
  have HNE := Lib.hid hne
  have HBW := Lib.hid hbw
  clear hP hx hx1 hy ho hne hk hk9 hbw
  obtain ⟨ra, rc, rfl⟩ := row_shapeK HO.out
  by_cases h0 : n = 0
  · subst h0
    go_enter Tryz.func46, Tryz.ntmps46
    go_wp2_with (fail)
    refine HP.out.mono ?_
    rintro e w1 ⟨rfl, rfl⟩
    go_upto_region 6 with (fail)
    generalize hW1 : w.alloc (.cells #[.int .i64 kind, strV text, .int .i64 an, .slice kp kn kc] 81) = w1 at *
    clear hW1
    have hl1 : bb < w1.heap.size := HX.out.lt
    have hl2 : w.heap.size < w1.heap.size := World.block_lt_of_cell? w1 _ y0
    go_region_law (first
      | (refine step_append_lies _ rfl (.tmp 26) (.tmp 29) 37 rfl B0 9 i0 (strV []) 1 16 Tryz.underlying37 hi hz0 hz1 hz2 rfl (by decide) (.slice ra R.length rc) R.length (R.map strV) (by simp [Act.eval]) ((hoa.alloc _).drew) ⟨w1.heap.size, 0, none⟩ 1 1 [strV text] (by simp [Act.eval]) rfl (World.news_of_block (cs := #[strV text]) (t := 9) (fr := (0, 0)) (heap_alloc_new w1 _)) (by intro u hu; simp at hu; subst hu; rfl) (by omega) (by unfold maxLen; omega) (by omega) (by have := HBW.out.size; simp; omega) (w1.heap.size + 1) (by simp) ?_; intro g9 cap9 w9 hown9 hgrow9 hpl9 hlt9; have hxd := HX.out.below (((Below.refl w1.heap.size w1).alloc (Nat.le_refl _) (.cells #[strV text] 9)).drew) HX.out.lt; have hgw := hgrow9.block bb hxd.lt (fun e => HNE.out bb e.symm rfl); have q9 := hxd.same hgw; have g0 := q9.free 0; have d0 := q9.cell 0; simp only [List.getElem?_cons_zero] at d0; have HQ := Lib.hid (q9.set 0 (.slice (some ⟨g9, 0, none⟩) (R.length + 1) cap9)); have HG := Lib.hid hgrow9; have HOW := Lib.hid hown9; have HPL := Lib.hid hpl9; have HLT9 := Lib.hid hlt9; clear hxd hgw q9 hown9 hgrow9 hpl9 hlt9))
    all_goals
      have hw1 : w.heap.size < w1.heap.size := by
        have h1 := HBW.out.size
        have h2 := World.block_lt_of_cell? w1 _ y0
        simpa using h2
      have hbd : Below w1.heap.size w1 ((w1.alloc (.cells #[strV text] 9)).drew) := ((Below.refl w1.heap.size w1).alloc (Nat.le_refl _) _).drew
      have hgb : g9 ≠ bb := by
        rcases HPL.out with e | e
        · exact HNE.out g9 e
        · omega
      have hs1 : Stp (bb :: (Value.slice ra R.length rc).ownBlock.toList) (bb :: (Value.slice ra R.length rc).ownBlock.toList) w w9 := (Stp.of_below (A := bb :: (Value.slice ra R.length rc).ownBlock.toList) (B := bb :: (Value.slice ra R.length rc).ownBlock.toList) (HBW.out.trans (hbd.mono HBW.out.size)) fun k hk => Or.inl hk).trans (Stp.of_grown HG.out (fun k hk => by simp [hk]) fun k hk => Or.inl hk)
      have hs2 := hs1.trans (Stp.of_set (A := bb :: (Value.slice ra R.length rc).ownBlock.toList) (B := bb :: (Value.slice ra R.length rc).ownBlock.toList) w9 ⟨bb, 0, none⟩ (.slice (some ⟨g9, 0, none⟩) (R.length + 1) cap9) (by simp) fun k hk => Or.inl hk)
      have hres : CalledPost w bb B0 (.slice ra R.length rc) (R ++ [text]) false [] false (.returned (.tuple #[])) (w9.setCell ⟨bb, 0, none⟩ (.slice (some ⟨g9, 0, none⟩) (R.length + 1) cap9)) := by
        refine ⟨rfl, _, HQ.out, ?_, fun k hk => by simp [Value.ownBlock] at hk; omega, ⟨hs2.os, hs2.tape, hs2.output, hs2.size, hs2.block, fun k hk => ?_⟩⟩
        · have h3 : w9.ownsRow B0 9 1 (.slice (some ⟨g9, 0, none⟩) (R.length + 1) cap9) (R ++ [text]).length ((R ++ [text]).map strV) := by
            rw [List.length_append, List.map_append]
            exact HOW.out
          have h4 := ownsRow_same (w' := w9.setCell ⟨bb, 0, none⟩ (.slice (some ⟨g9, 0, none⟩) (R.length + 1) cap9)) h3 fun k hk => heap_setCell_other _ _ _ _ (show k ≠ bb by simp [Value.ownBlock] at hk; omega)
          simpa using h4
        · rcases List.mem_cons.1 hk with e | hk
          · exact Or.inl (by simp [e])
          · simp [Value.ownBlock] at hk
            subst hk
            rcases HPL.out with e | e
            · exact Or.inl (by simp [e])
            · exact Or.inr (by omega)
      have HRES := Lib.hid hres
      clear hres hs1 hs2
      go_wp2
      go_end0
      exact HRES.out
  · by_cases h20 : n = 20
    · subst h20
      have hres := called_put (w := w) (B0 := B0) (va := .slice ra R.length rc) (R' := R) (O := (.cells #[.int .i64 kind, strV text, .int .i64 an, .slice kp kn kc] 81)) ((HX.out.set 1 (.bool true)).set 2 (strV text)) hlt (fun k hk => (heap_setCell_other _ _ _ _ hk).trans (heap_setCell_other _ _ _ _ hk)) (by simp [World.setCell]) ⟨rfl, rfl, rfl⟩ (Or.inl ⟨rfl, HO.out, HNE.out⟩)
      have HRES := Lib.hid hres
      clear hres h0
      go_enter Tryz.func46, Tryz.ntmps46
      go_wp2_with (fail)
      refine HP.out.mono ?_
      rintro e w1 ⟨rfl, rfl⟩
      generalize hW1 : w.alloc (.cells #[.int .i64 kind, strV text, .int .i64 an, .slice kp kn kc] 81) = w1 at *
      go_wp2
      go_end0
      exact HRES.out
    · have hres := called_put (w := w) (B0 := B0) (va := .slice ra R.length rc) (R' := R) (O := (.cells #[.int .i64 kind, strV text, .int .i64 an, .slice kp kn kc] 81)) HX.out hlt (fun k hk => rfl) (by simp) ⟨rfl, rfl, rfl⟩ (Or.inl ⟨rfl, HO.out, HNE.out⟩)
      have e20 : (n == 20) = false := by simpa using h20
      rw [if_neg h0, if_neg h20, e20]
      have q0 : ((n : Int) == 0) = false := by simp; omega
      have q20 : ((n : Int) == 20) = false := by simp; omega
      have HRES := Lib.hid hres
      clear hres h0 h20 e20
      go_enter Tryz.func46, Tryz.ntmps46
      go_wp2_with (fail)
      refine HP.out.mono ?_
      rintro e w1 ⟨rfl, rfl⟩
      generalize hW1 : w.alloc (.cells #[.int .i64 kind, strV text, .int .i64 an, .slice kp kn kc] 81) = w1 at *
      go_wp2
      go_end0
      exact HRES.out
end Go.Proofs.YtfgpigblnkanpaaGreatDoor
