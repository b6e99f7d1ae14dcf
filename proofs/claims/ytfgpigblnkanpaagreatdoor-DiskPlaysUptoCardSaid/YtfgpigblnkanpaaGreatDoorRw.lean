/- A disk and the document's, beside each other: do both have the same files? -/
import Derived.Test.YtfgpigblnkanpaaGreatDoorGM
import Derived.Deep.RegionHeld3
import Derived.BigQuiet
namespace Go.Proofs.YtfgpigblnkanpaaGreatDoor
open Go.RowKit Go.Maps Go.Shelf
set_option linter.unusedVariables false
set_option linter.unusedSimpArgs false

theorem dread_listed {d : Dk} (hr : Rise d.now) {n : Nm} (hn : n ∈ dlist d []) : ∃ x, dread d n = (x, 0) := by
  by_cases hoff : d.off = true
  · unfold dlist at hn; rw [if_pos hoff] at hn; cases hn
  · have hoff' : d.off = false := by simpa using hoff
    rw [dlist_all hoff'] at hn
    obtain ⟨p, hp, rfl⟩ := List.mem_map.1 hn
    refine ⟨(fat d.files p.2).data, ?_⟩
    unfold dread
    rw [if_neg hoff, tget_of_mem hr (n := p.1) (f := p.2) hp]
theorem Hd.nameLen {w : World} {A : List Nat} {g : Nat} {d : Dk} {N : Nat} (h : Hd w A g d N) : ∀ n ∈ dlist d [], n.length ≤ 9223372036854775807 := fun n hn => by
  obtain ⟨L, h1, _⟩ := h
  by_cases hoff : d.off = true
  · unfold dlist at hn; rw [if_pos hoff] at hn; cases hn
  · have hoff' : d.off = false := by simpa using hoff
    rw [dlist_all hoff'] at hn
    have h2 := h1.now.nameLen n hn
    unfold maxLen at h2
    exact h2
set_option maxHeartbeats 8000000 in
set_option maxRecDepth 100000 in
theorem palike_any (w : World) (A : List Nat) (g r : Nat) (d : Dk) (N : Nat) (h : Pr2 g r d d N w A) (hN : N ≤ 1073741824) (hg : ErrorLaid w) :
    Calls Tryz.prog 24 #[.agg #[.pointer (some ⟨g, 0, none⟩), .pointer (some ⟨r, 0, none⟩)]] w fun e w' => e = .returned (.bool true) ∧ Below w.heap.size w w' := by
  have hS : Below w.heap.size w (w.alloc (.cells #[.pointer (some ⟨g, 0, none⟩), .pointer (some ⟨r, 0, none⟩)] 58)) := (Below.refl _ w).alloc (Nat.le_refl _) _
  obtain ⟨A1, A2, ha, hr, -, -, -, -⟩ := (Pr2.res g r d d N).below h hS
  have hx := Blk.new w [.pointer (some ⟨g, 0, none⟩), .pointer (some ⟨r, 0, none⟩)] 58
  have x0 := hx.cell 0
  have x1 := hx.cell 1
  have hlx := hx.lt
  obtain ⟨co, hc1, hc2, hcode⟩ := list_code d
  have hll := dlist_len d []
  have hnl := ha.bd.now
  have hrise := ha.ok.now
  have hL1 := List_hd ha (by omega) [] (by simp)
  have hL2 := fun W (hb : Below (w.alloc (.cells #[.pointer (some ⟨g, 0, none⟩), .pointer (some ⟨r, 0, none⟩)] 58)).heap.size (w.alloc (.cells #[.pointer (some ⟨g, 0, none⟩), .pointer (some ⟨r, 0, none⟩)] 58)) W) => rList_rd (hr.below hb) hN []
  unfold ListPost at hL1
  rw [hc1] at hL1
  rw [hc2] at hL2
  have hpl := fun W (hgW : ErrorLaid W) => Plain_same co W hcode hgW
  have hLn : (dlist d []).length ≤ 4294967296 := by omega
  have hRd := fun n (hn : n ∈ dlist d []) => dread_listed hrise hn
  have hMem := ha.nameLen
  clear hc1 hc2 hll hnl
  generalize dlist d [] = L at *
  have HL1 := Lib.hid hL1
  have HL2 := Lib.hid hL2
  have HPL := Lib.hid hpl
  have HS := Lib.hid hS
  have HG := Lib.hid (hg.below hS)
  have HA := Lib.hid ha
  have HR := Lib.hid hr
  have HRD := Lib.hid hRd
  have HNM := Lib.hid hMem
  have hUd := fun W (hb : Below (w.alloc (.cells #[.pointer (some ⟨g, 0, none⟩), .pointer (some ⟨r, 0, none⟩)] 58)).heap.size (w.alloc (.cells #[.pointer (some ⟨g, 0, none⟩), .pointer (some ⟨r, 0, none⟩)] 58)) W) => Used_hd (ha.below hb) (by omega)
  have hUr := fun W (hb : Below (w.alloc (.cells #[.pointer (some ⟨g, 0, none⟩), .pointer (some ⟨r, 0, none⟩)] 58)).heap.size (w.alloc (.cells #[.pointer (some ⟨g, 0, none⟩), .pointer (some ⟨r, 0, none⟩)] 58)) W) => (rUsed_rd (hr.below hb) hN).mono fun e w' ⟨he, q, hq⟩ => (⟨he, hq ▸ below_drewN (Below.refl _ _) q⟩ : e = Ending.returned (.int .i64 (dused d : Nat)) ∧ Below W.heap.size W w')
  have HUD := Lib.hid hUd
  have HUR := Lib.hid hUr
  have X0 := Lib.hid x0
  have X1 := Lib.hid x1
  simp only [List.getElem?_cons_zero, List.getElem?_cons_succ] at x0 x1
  clear h ha hr hL1 hL2 hpl hS hx hg hRd hMem hUd hUr
  go_enter Tryz.func24, Tryz.ntmps24
  go_wp2_with (fail)
  generalize hW0 : w.alloc (.cells #[.pointer (some ⟨g, 0, none⟩), .pointer (some ⟨r, 0, none⟩)] 58) = W0 at *
  clear hW0
  refine HL1.out.mono ?_
  rintro e w1 ⟨v1, rfl, ho1, -, hb1⟩
  have x0 := (hb1.cell (p := ⟨w.heap.size, 0, none⟩) hlx).trans x0
  have x1 := (hb1.cell (p := ⟨w.heap.size, 1, none⟩) hlx).trans x1
  have hs1 := hb1.size
  go_wp2_with (fail)
  refine (HL2.out _ hb1).mono ?_
  rintro e w2 ⟨v2, rfl, ho2, hb2⟩
  have hs2 := hb2.size
  have hb02 := hb1.trans (hb2.mono hs1)
  have x0 := (hb2.cell (p := ⟨w.heap.size, 0, none⟩) (show w.heap.size < w1.heap.size by omega)).trans x0
  have x1 := (hb2.cell (p := ⟨w.heap.size, 1, none⟩) (show w.heap.size < w1.heap.size by omega)).trans x1
  obtain ⟨a1, c1, rfl⟩ := row_shape ho1
  obtain ⟨a2, c2, rfl⟩ := row_shape ho2
  have s1 := ShapeT.own (row_below ho1 hb2)
  have s2 := ShapeT.own ho2
  have hST : ∀ W, Below w2.heap.size w2 W → Calls Tryz.prog 69 #[.slice a1 L.length c1, .slice a2 L.length c2] W fun e w' => e = .returned (.bool true) ∧ Below W.heap.size W w' := fun W hb => (SameTexts_sh W _ _ L L (s1.below hb) (s2.below hb) (by omega) (by omega)).mono fun e w' ⟨he, q, hq⟩ => ⟨by rw [he]; simp, hq ▸ below_drewN (Below.refl _ _) q⟩
  have hlw : w.heap.size < w2.heap.size := by omega
  have HST := Lib.hid hST
  have HS1 := Lib.hid s1
  have HB02 := Lib.hid hb02
  have HP2 := Lib.hid fun W (hb : Below w2.heap.size w2 W) => HPL.out W (HG.out.below (hb02.trans (hb.mono hb02.size)))
  have HD2 := Lib.hid fun W (hb : Below w2.heap.size w2 W) => HUD.out W (hb02.trans (hb.mono hb02.size))
  have HR2 := Lib.hid fun W (hb : Below w2.heap.size w2 W) => HUR.out W (hb02.trans (hb.mono hb02.size))
  have hu : (((dused d : Nat) : Int) != ((dused d : Nat) : Int)) = false := by simp
  generalize dused d = ud at *
  clear ho1 ho2 hb1 hb2 hb02 s1 s2 hST HL1 HL2
  go_upto_region 3 with (fail)
  go_region_held3 (fun w' => w'.cell? ⟨w.heap.size, 0, none⟩ = some (.pointer (some ⟨g, 0, none⟩)) ∧ w'.cell? ⟨w.heap.size, 1, none⟩ = some (.pointer (some ⟨r, 0, none⟩)) ∧ Below w2.heap.size w2 w')
    (first | assumption | exact ⟨x0, x1, (Below.refl _ _).drew⟩ | exact (Below.refl _ _).drew | (have hh := ‹_ ∧ _ ∧ Below w2.heap.size w2 _›; exact ⟨hh.1, hh.2.1, hh.2.2.drew⟩) | (have hh := ‹_ ∧ _ ∧ Below w2.heap.size w2 _›; exact ⟨(hb.cell (p := ⟨w.heap.size, 0, none⟩) (Nat.lt_of_lt_of_le hlw hh.2.2.size)).trans hh.1, (hb.cell (p := ⟨w.heap.size, 1, none⟩) (Nat.lt_of_lt_of_le hlw hh.2.2.size)).trans hh.2.1, hh.2.2.trans (hb.mono hh.2.2.size)⟩) | go_keep)
    (first
      | (go_at_call 69; (with_reducible refine (HST.out _ (by have hh := ‹_ ∧ _ ∧ Below w2.heap.size w2 _›; exact hh.2.2)).mono ?_); rintro e wn ⟨rfl, hb⟩)
      | (go_at_call 28; (with_reducible refine (HP2.out _ (by have hh := ‹_ ∧ _ ∧ Below w2.heap.size w2 _›; exact hh.2.2)).mono ?_); rintro e wn ⟨rfl, hb⟩)
      | (go_at_call 29; (with_reducible refine (HD2.out _ (by have hh := ‹_ ∧ _ ∧ Below w2.heap.size w2 _›; exact hh.2.2)).mono ?_); rintro e wn ⟨rfl, hb⟩)
      | (go_at_call 80; (with_reducible refine (HR2.out _ (by have hh := ‹_ ∧ _ ∧ Below w2.heap.size w2 _›; exact hh.2.2)).mono ?_); rintro e wn ⟨rfl, hb⟩))
  have hh : wn.cell? ⟨w.heap.size, 0, none⟩ = some (.pointer (some ⟨g, 0, none⟩)) ∧ wn.cell? ⟨w.heap.size, 1, none⟩ = some (.pointer (some ⟨r, 0, none⟩)) ∧ Below w2.heap.size w2 wn := by assumption
  have HHH := Lib.hid hh
  clear hh HP2 HD2 HR2 HUD HUR HST HPL
  go_wp2_with (fail)
  go_loopw [7] (fun iv wr => ∃ k : Nat, iv = .int .i64 k ∧ k ≤ L.length ∧ Hid (Below w2.heap.size w2 wr)) (fun iv _ => L.length - (intOf iv).toNat)
  case atStart => exact ⟨0, rfl, Nat.zero_le _, HHH.out.2.2⟩
  case round =>
    clear HHH
    obtain ⟨k, rfl, hk, hbel⟩ := hrel
    by_cases hlt : k < L.length
    · obtain ⟨nm, hnm⟩ : ∃ x, L[k]? = some x := ⟨_, List.getElem?_eq_getElem hlt⟩
      have hmem := List.mem_of_getElem? hnm
      obtain ⟨dt, hdt⟩ := HRD.out nm hmem
      have hnl := HNM.out nm hmem
      obtain ⟨_, _, hwe, hsx⟩ := HS1.out.below hbel.out
      simp only [Value.slice.injEq] at hwe
      obtain ⟨rfl, -, rfl⟩ := hwe
      obtain ⟨sb, so, rfl, cs⟩ := hsx k nm hnm
      have hb0 := HB02.out.trans (hbel.out.mono HB02.out.size)
      have hRd := Read_hd (HA.out.below (hb0.trans (((Below.refl wr.heap.size wr).drew).mono hb0.size))) nm hnl
      have hRr := fun W (hb : Below wr.heap.size wr W) => rRead_rd (HR.out.below (hb0.trans (hb.mono hb0.size))) hN nm
      rw [hdt] at hRd
      simp only [hdt] at hRr
      have hRd2 := hRd.mono (fun e w' (h : _ ∧ wr.drew = w') => (⟨h.1, h.2.symm⟩ : _ ∧ w' = wr.drew))
      rw [errV_none] at hRd2
      have z0 := (hbel.out.cell (p := ⟨w.heap.size, 0, none⟩) hlw).trans x0
      have z1 := (hbel.out.cell (p := ⟨w.heap.size, 1, none⟩) hlw).trans x1
      have ik0 : (0 : Int) ≤ (k : Int) := by omega
      have ik1 : (k : Int) < (L.length : Int) := by omega
      have hqq : ((str dt).toList == (str dt).toList) = true := by simp
      have HRR := Lib.hid hRr
      clear hnm hmem hdt hnl hsx hb0 hRd hRr
      go_upto_region 8 with (fail)
      refine wp_region_still_lit (by kernel_rfl) (by kernel_rfl) ?_
      repeat still_step
      still_call hRd2
      repeat still_step
      refine wpStill_nil ?_
      clear hRd2
      have HBL := Lib.hid (hbel.out.trans (((Below.refl wr.heap.size wr).drew).mono hbel.out.size))
      have HRR2 := Lib.hid fun W (hb : Below wr.drew.heap.size wr.drew W) => HRR.out W (((Below.refl wr.heap.size wr).drew).trans hb)
      have t0 : wr.drew.cell? ⟨w.heap.size, 1, none⟩ = _ := z1
      have t1 : wr.drew.cell? ⟨sb, so + k, none⟩ = _ := cs
      clear hbel z0 z1 cs HRR
      go_upto_region 9 with (fail)
      change Code.wp _ _ _ _ wr.drew
      generalize wr.drew = V at *
      have hsb : sb < V.heap.size := World.block_lt_of_cell? V _ t1
      have hwb : w.heap.size < V.heap.size := World.block_lt_of_cell? V _ t0
      go_region_held3 (fun w' => w'.cell? ⟨w.heap.size, 1, none⟩ = some (.pointer (some ⟨r, 0, none⟩)) ∧ w'.cell? ⟨sb, so + k, none⟩ = some (strV nm) ∧ Below V.heap.size V w')
        (first | assumption | exact ⟨t0, t1, (Below.refl _ _).drew⟩ | exact (Below.refl _ _).drew | (have hh := ‹_ ∧ _ ∧ Below V.heap.size V _›; exact ⟨hh.1, hh.2.1, hh.2.2.drew⟩) | (have hh := ‹_ ∧ _ ∧ Below V.heap.size V _›; exact ⟨(hb.cell (p := ⟨w.heap.size, 1, none⟩) (Nat.lt_of_lt_of_le hwb hh.2.2.size)).trans hh.1, (hb.cell (p := ⟨sb, so + k, none⟩) (Nat.lt_of_lt_of_le hsb hh.2.2.size)).trans hh.2.1, hh.2.2.trans (hb.mono hh.2.2.size)⟩) | go_keep)
        (first
          | (go_at_call 72; (with_reducible refine (HRR2.out _ (by have hh := ‹_ ∧ _ ∧ Below V.heap.size V _›; exact hh.2.2)).mono ?_); rintro e w5 ⟨rfl, hb⟩))
      have hh : w5.cell? ⟨w.heap.size, 1, none⟩ = some (.pointer (some ⟨r, 0, none⟩)) ∧ w5.cell? ⟨sb, so + k, none⟩ = some (strV nm) ∧ Below V.heap.size V w5 := by assumption
      have HB5 : Hid (Below w2.heap.size w2 w5) := HBL.out.trans (hh.2.2.mono HBL.out.size)
      clear hh HRR2 HBL t0 t1
      go_wp2
      go_roundw
      case rel => exact ⟨k + 1, by go_num, by omega, HB5.out⟩
      case measure => simp [intOf]; omega
    · have hres : Below w.heap.size w wr := HS.out.trans ((HB02.out.trans (hbel.out.mono HB02.out.size)).mono HS.out.size)
      have HRES := Lib.hid hres
      clear hres hbel
      go_wp2
      go_ret
      exact ⟨rfl, HRES.out⟩
end Go.Proofs.YtfgpigblnkanpaaGreatDoor
