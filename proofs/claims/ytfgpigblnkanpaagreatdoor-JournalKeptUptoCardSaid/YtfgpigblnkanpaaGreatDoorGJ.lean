/- Printed by gen_ld.py. The walks of the closed helpers of the statements on disks: works, fresh, begun, turned. Two disks made within the law, beside each other; the plain law of DiskStruck. -/
import Derived.Test.YtfgpigblnkanpaaGreatDoorGP
import Derived.Test.YtfgpigblnkanpaaGreatDoorGA
namespace Go.Proofs.YtfgpigblnkanpaaGreatDoor
open Go.RowKit Go.Maps Go.Shelf
set_option linter.unusedVariables false

theorem List_m {w0 w : World} {K A : List Nat} {g : Nat} {d : Dk} {N : Nat} (h : Mine w0 w K A g d N) (l : List Nm) (hoff : d.off = false) (hc : (dshown d).1 = l) (hN : N < 4294967296) : Calls Tryz.prog 14 #[.pointer (some ⟨g, 0, none⟩), strV []] w fun e w' => ∃ v, e = .returned (.tuple #[v, .nilIface]) ∧ TextsAt w' v l ∧ Mine w0 w' (v.ownBlock.toList ++ K) A g d N ∧ Below w.heap.size w w' := by
  refine (List_hd h.hd hN [] (by simp)).mono ?_
  rintro e w' ⟨v, rfl, hr, hn, hb⟩
  rw [dlist_all hoff, hc] at hr
  refine ⟨v, by rw [if_neg (by simp [hoff]), errV_none], RowAt.of_row hr, h.add hb _ (fun k hk => ?_), hb⟩
  have := hr.lt k (by simpa using hk)
  exact this
def wk1 : Dk := (ddo (dnew (9)) (.create [97])).1
set_option maxRecDepth 100000 in theorem wk1_eq : ddo (dnew (9)) (.create [97]) = (wk1, 0) := ddo_eq rfl (by kernel_rfl)
def wk2 : Dk := (ddo wk1 (.create [97])).1
set_option maxRecDepth 100000 in theorem wk2_eq : ddo wk1 (.create [97]) = (wk2, 13) := ddo_eq rfl (by kernel_rfl)
def wk3 : Dk := (ddo wk2 (.write [97] [120, 121])).1
set_option maxRecDepth 100000 in theorem wk3_eq : ddo wk2 (.write [97] [120, 121]) = (wk3, 0) := ddo_eq rfl (by kernel_rfl)
def wk4 : Dk := (ddo wk3 (.sync [97])).1
set_option maxRecDepth 100000 in theorem wk4_eq : ddo wk3 (.sync [97]) = (wk4, 0) := ddo_eq rfl (by kernel_rfl)
def wk5 : Dk := (ddo wk4 (.flush)).1
set_option maxRecDepth 100000 in theorem wk5_eq : ddo wk4 (.flush) = (wk5, 0) := ddo_eq rfl (by kernel_rfl)
def wk6 : Dk := (ddo wk5 (.write [97] [122])).1
set_option maxRecDepth 100000 in theorem wk6_eq : ddo wk5 (.write [97] [122]) = (wk6, 0) := ddo_eq rfl (by kernel_rfl)
def wk7 : Dk := (ddo wk6 (.create [98])).1
set_option maxRecDepth 100000 in theorem wk7_eq : ddo wk6 (.create [98]) = (wk7, 0) := ddo_eq rfl (by kernel_rfl)
def wk8 : Dk := dcrash wk7 []
def wk9 : Dk := drevive wk8
set_option maxHeartbeats 4000000 in
set_option maxRecDepth 100000 in
theorem works22_any (w : World) (hg : ErrorLaid w) : Calls Tryz.prog 12 #[] w fun e w' => e = .returned (.bool true) ∧ Below w.heap.size w w' := by
  go_enter Tryz.func12, Tryz.ntmps12
  go_wp2_with (fail)
  refine (New_m w _ (Below.refl _ _) [] (fun k hk => by cases hk) (9)).mono ?_
  rintro e w1 ⟨g1, A1, rfl, h1, -⟩
  have H1 := Lib.hid h1; clear h1
  go_wp2_with (fail)
  refine (Create_m H1.out [97] wk1_eq (by omega) (by decide)).mono ?_
  rintro e w2 ⟨rfl, ⟨A2, h2⟩, -⟩
  have H2 := Lib.hid h2; clear h2
  rw [errV_none]
  go_wp2_with (fail)
  refine (Create_m H2.out [97] wk2_eq (by omega) (by decide)).mono ?_
  rintro e w3 ⟨rfl, ⟨A3, h3⟩, -⟩
  have H3 := Lib.hid h3; clear h3
  go_wp2_with (fail)
  refine (Plain_same 13 _ (by omega) (hg.below H3.out.bel)).mono ?_
  rintro e w4 ⟨rfl, hb4⟩
  have h4 := H3.out.below hb4; have H4 := Lib.hid h4; clear h4 hb4
  go_wp2_with (fail)
  refine (Write_m H4.out [97] [120, 121] wk3_eq (by omega) (by decide) (by decide)).mono ?_
  rintro e w5 ⟨rfl, ⟨A5, h5⟩, -⟩
  have H5 := Lib.hid h5; clear h5
  rw [errV_none]
  go_wp2_with (fail)
  refine (Sync_m H5.out [97] wk4_eq (by omega) (by decide)).mono ?_
  rintro e w6 ⟨rfl, ⟨A6, h6⟩, -⟩
  have H6 := Lib.hid h6; clear h6
  rw [errV_none]
  go_wp2_with (fail)
  refine (Flush_m H6.out  wk5_eq (by omega)).mono ?_
  rintro e w7 ⟨rfl, ⟨A7, h7⟩, -⟩
  have H7 := Lib.hid h7; clear h7
  rw [errV_none]
  go_wp2_with (fail)
  refine (Write_m H7.out [97] [122] wk6_eq (by omega) (by decide) (by decide)).mono ?_
  rintro e w8 ⟨rfl, ⟨A8, h8⟩, -⟩
  have H8 := Lib.hid h8; clear h8
  rw [errV_none]
  go_wp2_with (fail)
  refine (Create_m H8.out [98] wk7_eq (by omega) (by decide)).mono ?_
  rintro e w9 ⟨rfl, ⟨A9, h9⟩, -⟩
  have H9 := Lib.hid h9; clear h9
  rw [errV_none]
  go_wp2_with (fail)
  refine (Used_m H9.out (k := 3) (by kernel_rfl) (by omega)).mono ?_
  rintro e w10 ⟨rfl, hb10⟩
  have h10 := H9.out.below hb10; have H10 := Lib.hid h10; clear h10 hb10
  go_wp2_with (fail)
  refine (Crash_m H10.out _ [] (d' := wk8) rfl (by omega) (IntsAt.nil _ none 0) (fun j hj => (usesOf_nil hj).elim)).mono ?_
  rintro e w11 ⟨rfl, ⟨A11, h11⟩, -⟩
  have H11 := Lib.hid h11; clear h11
  go_wp2_with (fail)
  refine (Read_m H11.out [97] (s := []) (c := 20) (by kernel_rfl) (by decide)).mono ?_
  rintro e w12 ⟨rfl, rfl⟩
  go_wp2_with (fail)
  refine (Revive_m H11.out (d' := wk9) rfl).mono ?_
  rintro e w13 ⟨rfl, ⟨A13, h13⟩, -⟩
  have H13 := Lib.hid h13; clear h13
  go_wp2_with (fail)
  refine (Read_m H13.out [97] (s := [120, 121]) (c := 0) (by kernel_rfl) (by decide)).mono ?_
  rintro e w14 ⟨rfl, rfl⟩
  rw [errV_none]
  go_wp2_with (fail)
  refine (List_m H13.out [[97]] rfl (by kernel_rfl) (by omega)).mono ?_
  rintro e wl ⟨lv, rfl, hrow, hl, -⟩
  have HL := Lib.hid hl; clear hl
  have HROW := Lib.hid hrow
  obtain ⟨la, lc, rfl, hx⟩ := hrow.shape
  obtain ⟨lb, lo, rfl, hcell, -⟩ := hx 0 _ rfl
  have hrow2 := fun ww (hb : Below wl.heap.size wl ww) => (hb.cell (p := ⟨lb, lo + 0, none⟩) (World.block_lt_of_cell? wl _ hcell)).trans hcell
  have HR2 := Lib.hid hrow2
  clear hrow hx hcell hrow2
  go_wp2_with (fail)
  refine (Plain_same 20 _ (by omega) (hg.below HL.out.bel)).mono ?_
  rintro e we ⟨rfl, hbe⟩
  have hcell := HR2.out we hbe
  have HBE := Lib.hid hbe; clear hbe
  simp only [Nat.add_zero] at hcell
  have t1 : ((str [120, 121]).toList == [120, 121]) = true := by rw [toList_str]; rfl
  have t2 : ((str [97]).toList == [97]) = true := by rw [toList_str]; rfl
  go_wp2
  go_ret
  exact ⟨rfl, (HL.out.below HBE.out).bel⟩
def fr1 : Dk := (ddo (dnew (99)) (.create [97])).1
set_option maxRecDepth 100000 in theorem fr1_eq : ddo (dnew (99)) (.create [97]) = (fr1, 0) := ddo_eq rfl (by kernel_rfl)
def fr2 : Dk := (ddo fr1 (.write [97] [120, 121])).1
set_option maxRecDepth 100000 in theorem fr2_eq : ddo fr1 (.write [97] [120, 121]) = (fr2, 0) := ddo_eq rfl (by kernel_rfl)
set_option maxHeartbeats 4000000 in
set_option maxRecDepth 100000 in
theorem fresh_any (w0 w : World) (hb : Below w0.heap.size w0 w) : Calls Tryz.prog 36 #[] w fun e w' => ∃ g A, e = .returned (.pointer (some ⟨g, 0, none⟩)) ∧ Mine w0 w' [] A g fr2 2 := by
  have HB := Lib.hid hb
  clear hb
  go_enter Tryz.func36, Tryz.ntmps36
  go_wp2_with (fail)
  refine (New_m w0 _ HB.out [] (fun k hk => by cases hk) (99)).mono ?_
  rintro e w1 ⟨g1, A1, rfl, h1, -⟩
  have H1 := Lib.hid h1; clear h1
  go_wp2_with (fail)
  refine (Create_m H1.out [97] fr1_eq (by omega) (by decide)).mono ?_
  rintro e w2 ⟨rfl, ⟨A2, h2⟩, -⟩
  have H2 := Lib.hid h2; clear h2
  rw [errV_none]
  go_wp2_with (fail)
  refine (Write_m H2.out [97] [120, 121] fr2_eq (by omega) (by decide) (by decide)).mono ?_
  rintro e w3 ⟨rfl, ⟨A3, h3⟩, -⟩
  have H3 := Lib.hid h3; clear h3
  rw [errV_none]
  go_wp2
  go_ret
  exact ⟨_, _, rfl, H3.out⟩
def bg1 : Dk := (ddo (dnew (99)) (.create [116])).1
set_option maxRecDepth 100000 in theorem bg1_eq : ddo (dnew (99)) (.create [116]) = (bg1, 0) := ddo_eq rfl (by kernel_rfl)
def bg2 : Dk := (ddo bg1 (.write [116] [120, 121])).1
set_option maxRecDepth 100000 in theorem bg2_eq : ddo bg1 (.write [116] [120, 121]) = (bg2, 0) := ddo_eq rfl (by kernel_rfl)
def bg3 : Dk := (ddo bg2 (.sync [116])).1
set_option maxRecDepth 100000 in theorem bg3_eq : ddo bg2 (.sync [116]) = (bg3, 0) := ddo_eq rfl (by kernel_rfl)
def bg4 : Dk := (ddo bg3 (.rename [116] [97])).1
set_option maxRecDepth 100000 in theorem bg4_eq : ddo bg3 (.rename [116] [97]) = (bg4, 0) := ddo_eq rfl (by kernel_rfl)
set_option maxHeartbeats 4000000 in
set_option maxRecDepth 100000 in
theorem begun_any (w0 w : World) (hb : Below w0.heap.size w0 w) : Calls Tryz.prog 37 #[] w fun e w' => ∃ g A, e = .returned (.pointer (some ⟨g, 0, none⟩)) ∧ Mine w0 w' [] A g bg4 4 := by
  have HB := Lib.hid hb
  clear hb
  go_enter Tryz.func37, Tryz.ntmps37
  go_wp2_with (fail)
  refine (New_m w0 _ HB.out [] (fun k hk => by cases hk) (99)).mono ?_
  rintro e w1 ⟨g1, A1, rfl, h1, -⟩
  have H1 := Lib.hid h1; clear h1
  go_wp2_with (fail)
  refine (Create_m H1.out [116] bg1_eq (by omega) (by decide)).mono ?_
  rintro e w2 ⟨rfl, ⟨A2, h2⟩, -⟩
  have H2 := Lib.hid h2; clear h2
  rw [errV_none]
  go_wp2_with (fail)
  refine (Write_m H2.out [116] [120, 121] bg2_eq (by omega) (by decide) (by decide)).mono ?_
  rintro e w3 ⟨rfl, ⟨A3, h3⟩, -⟩
  have H3 := Lib.hid h3; clear h3
  rw [errV_none]
  go_wp2_with (fail)
  refine (Sync_m H3.out [116] bg3_eq (by omega) (by decide)).mono ?_
  rintro e w4 ⟨rfl, ⟨A4, h4⟩, -⟩
  have H4 := Lib.hid h4; clear h4
  rw [errV_none]
  go_wp2_with (fail)
  refine (Rename_m H4.out [116] [97] bg4_eq (by omega) (by decide) (by decide)).mono ?_
  rintro e w5 ⟨rfl, ⟨A5, h5⟩, -⟩
  have H5 := Lib.hid h5; clear h5
  rw [errV_none]
  go_wp2
  go_ret
  exact ⟨_, _, rfl, H5.out⟩
def tu1 : Dk := (ddo bg4 (.flush)).1
set_option maxRecDepth 100000 in theorem tu1_eq : ddo bg4 (.flush) = (tu1, 0) := ddo_eq rfl (by kernel_rfl)
def tu2 : Dk := (ddo tu1 (.remove [97])).1
set_option maxRecDepth 100000 in theorem tu2_eq : ddo tu1 (.remove [97]) = (tu2, 0) := ddo_eq rfl (by kernel_rfl)
def tu3 : Dk := (ddo tu2 (.create [97])).1
set_option maxRecDepth 100000 in theorem tu3_eq : ddo tu2 (.create [97]) = (tu3, 0) := ddo_eq rfl (by kernel_rfl)
set_option maxHeartbeats 4000000 in
set_option maxRecDepth 100000 in
theorem turned_any (w0 w : World) (hb : Below w0.heap.size w0 w) : Calls Tryz.prog 38 #[] w fun e w' => ∃ g A, e = .returned (.pointer (some ⟨g, 0, none⟩)) ∧ Mine w0 w' [] A g tu3 7 := by
  have HB := Lib.hid hb
  clear hb
  go_enter Tryz.func38, Tryz.ntmps38
  go_wp2_with (fail)
  refine (begun_any w0 _ HB.out).mono ?_
  rintro e w1 ⟨g1, A1, rfl, h1⟩
  have H1 := Lib.hid h1; clear h1
  go_wp2_with (fail)
  refine (Flush_m H1.out  tu1_eq (by omega)).mono ?_
  rintro e w2 ⟨rfl, ⟨A2, h2⟩, -⟩
  have H2 := Lib.hid h2; clear h2
  rw [errV_none]
  go_wp2_with (fail)
  refine (Remove_m H2.out [97] tu2_eq (by omega) (by decide)).mono ?_
  rintro e w3 ⟨rfl, ⟨A3, h3⟩, -⟩
  have H3 := Lib.hid h3; clear h3
  rw [errV_none]
  go_wp2_with (fail)
  refine (Create_m H3.out [97] tu3_eq (by omega) (by decide)).mono ?_
  rintro e w4 ⟨rfl, ⟨A4, h4⟩, -⟩
  have H4 := Lib.hid h4; clear h4
  rw [errV_none]
  go_wp2
  go_ret
  exact ⟨_, _, rfl, H4.out⟩
end Go.Proofs.YtfgpigblnkanpaaGreatDoor

namespace Go.Proofs.YtfgpigblnkanpaaGreatDoor
open Go.RowKit Go.Maps Go.Shelf
set_option linter.unusedVariables false

/-- Two disks, within blocks of their own; the blocks K are none of theirs. -/
structure Two (w0 w : World) (K A B : List Nat) (ga gb : Nat) (a b : Dk) (N : Nat) : Prop where
  l : Mine w0 w (B ++ K) A ga a N
  r : Mine w0 w (A ++ K) B gb b N
section
variable {w0 w w' : World} {K A B : List Nat} {ga gb : Nat} {a b a' b' : Dk} {N N' : Nat}
theorem Two.swap (h : Two w0 w K A B ga gb a b N) : Two w0 w K B A gb ga b a N := ⟨h.r, h.l⟩
theorem Two.below (h : Two w0 w K A B ga gb a b N) (hb : Below w.heap.size w w') : Two w0 w' K A B ga gb a b N := ⟨h.l.below hb, h.r.below hb⟩
theorem Two.mono (h : Two w0 w K A B ga gb a b N) (hm : N ≤ N') : Two w0 w K A B ga gb a b N' := ⟨h.l.mono hm, h.r.mono hm⟩
theorem Two.lift (h : Two w0 w K A B ga gb a b N) (hm : N ≤ N') (ht : HdTo ga a' N' A w w') : ∃ A', Two w0 w' K A' B ga gb a' b N' ∧ ∀ k ∈ K, w'.heap[k]? = w.heap[k]? := by
  obtain ⟨⟨A', h1⟩, h2⟩ := h.l.to ht
  obtain ⟨A'', h3, hs⟩ := ht
  -- the layout told by ht itself
  have hfar : ∀ k ∈ A'', k < w'.heap.size := h3.lt
  have hAB : ∀ k ∈ B, k ∉ A := fun k hk => (h.l.far k (List.mem_append_left _ hk)).2
  have hinn : ∀ k ∈ A'', k ∉ B := fun k hk hb => by
    rcases hs.inn k hk with h4 | h4
    · exact hAB k hb h4
    · have := h.r.hd.lt k hb
      omega
  have hl : Mine w0 w' (B ++ K) A'' ga a' N' := by
    refine ⟨h3, hs.from h.l.base h.l.bel.size, h1.bel, fun k hk => ⟨(h1.far k hk).1, fun hm => ?_⟩⟩
    rcases hs.inn k hm with h4 | h4
    · exact (h.l.far k hk).2 h4
    · have := (h.l.far k hk).1
      omega
  refine ⟨A'', ⟨hl, ⟨(h.r.hd.other hs hAB).mono hm, h.r.base, h1.bel, fun k hk => ?_⟩⟩, fun k hk => h2 k (List.mem_append_right _ hk)⟩
  rcases List.mem_append.1 hk with hk | hk
  · exact ⟨hfar k hk, hinn k hk⟩
  · exact ⟨(h1.far k (List.mem_append_right _ hk)).1, (h.r.far k (List.mem_append_right _ hk)).2⟩
theorem Two.right (h : Two w0 w K A B ga gb a b N) (hm : N ≤ N') (ht : HdTo gb b' N' B w w') : ∃ B', Two w0 w' K A B' ga gb a b' N' ∧ ∀ k ∈ K, w'.heap[k]? = w.heap[k]? := by
  obtain ⟨B', h1, h2⟩ := h.swap.lift hm ht
  exact ⟨B', h1.swap, h2⟩
end
/-- The second of two disks, made behind the first. -/
theorem New_two {w0 w : World} {K A : List Nat} {g : Nat} {d : Dk} {N : Nat} (h : Mine w0 w K A g d N) (room : Int) : Calls Tryz.prog 11 #[.int .i64 room] w fun e w' => ∃ g2 B, e = .returned (.pointer (some ⟨g2, 0, none⟩)) ∧ Two w0 w' K A B g g2 d (dnew room) N ∧ Below w.heap.size w w' :=
  (New_hd w room).mono fun e w' ⟨g2, B, he, h1, hb, hB⟩ => by
    refine ⟨g2, B, he, ⟨⟨(h.below hb).hd, h.base, (h.below hb).bel, fun k hk => ?_⟩, ⟨h1.mono (Nat.zero_le _), fun k hk => Nat.le_trans h.bel.size (hB k hk), (h.below hb).bel, fun k hk => ?_⟩⟩, hb⟩
    · rcases List.mem_append.1 hk with hk | hk
      · exact ⟨h1.lt k hk, fun hm => by have := hB k hk; have := h.hd.lt k hm; omega⟩
      · exact (h.below hb).far k hk
    · rcases List.mem_append.1 hk with hk | hk
      · exact ⟨Nat.lt_of_lt_of_le (h.hd.lt k hk) hb.size, fun hm => by have := hB k hm; have := h.hd.lt k hk; omega⟩
      · exact ⟨Nat.lt_of_lt_of_le (h.far k hk).1 hb.size, fun hm => by have := hB k hm; have := (h.far k hk).1; omega⟩
/-- Behind a call on one of them. -/
def TwoTo (w0 : World) (K : List Nat) (w : World) (ga gb : Nat) (a b : Dk) (N : Nat) (w' : World) : Prop :=
  (∃ A B, Two w0 w' K A B ga gb a b N) ∧ ∀ k ∈ K, w'.heap[k]? = w.heap[k]?
section
variable {w0 w w' : World} {K A B : List Nat} {ga gb : Nat} {a b a' b' : Dk} {N : Nat}
theorem Two.to_l (h : Two w0 w K A B ga gb a b N) {N' : Nat} (hm : N ≤ N') (ht : HdTo ga a' N' A w w') : TwoTo w0 K w ga gb a' b N' w' := by
  obtain ⟨A', h1, h2⟩ := h.lift hm ht
  exact ⟨⟨A', B, h1⟩, h2⟩
theorem Two.to_r (h : Two w0 w K A B ga gb a b N) {N' : Nat} (hm : N ≤ N') (ht : HdTo gb b' N' B w w') : TwoTo w0 K w ga gb a b' N' w' := by
  obtain ⟨B', h1, h2⟩ := h.right hm ht
  exact ⟨⟨A, B', h1⟩, h2⟩
theorem Two.add (h : Two w0 w K A B ga gb a b N) (x : Obj) : Two w0 (w.alloc x) (w.heap.size :: K) A B ga gb a b N := by
  have hb : Below w.heap.size w (w.alloc x) := (Below.refl _ w).alloc (Nat.le_refl _) x
  have h2 := h.below hb
  refine ⟨⟨h2.l.hd, h2.l.base, h2.l.bel, fun k hk => ?_⟩, ⟨h2.r.hd, h2.r.base, h2.r.bel, fun k hk => ?_⟩⟩
  · rcases List.mem_append.1 hk with hk | hk
    · exact h2.l.far k (List.mem_append_left _ hk)
    · rcases List.mem_cons.1 hk with rfl | hk
      · exact ⟨by simp, fun hm => Nat.lt_irrefl _ (h.l.hd.lt _ hm)⟩
      · exact h2.l.far k (List.mem_append_right _ hk)
  · rcases List.mem_append.1 hk with hk | hk
    · exact h2.r.far k (List.mem_append_left _ hk)
    · rcases List.mem_cons.1 hk with rfl | hk
      · exact ⟨by simp, fun hm => Nat.lt_irrefl _ (h.r.hd.lt _ hm)⟩
      · exact h2.r.far k (List.mem_append_right _ hk)
theorem Two.less (h : Two w0 w K A B ga gb a b N) {M : List Nat} (hM : ∀ k ∈ M, k ∈ K) : Two w0 w M A B ga gb a b N :=
  ⟨h.l.less fun k hk => (List.mem_append.1 hk).elim (fun h => List.mem_append_left _ h) (fun h => List.mem_append_right _ (hM k h)), h.r.less fun k hk => (List.mem_append.1 hk).elim (fun h => List.mem_append_left _ h) (fun h => List.mem_append_right _ (hM k h))⟩
theorem change_l (h : Two w0 w K A B ga gb a b N) (s : Sp) (ka : Option Addr) (kn kc : Nat) (hN : N + 1 < 4294967296) (h1 : s.name.length ≤ 140737488355328) (h2 : s.data.length ≤ 140737488355328) :
    Calls Tryz.prog 13 #[.pointer (some ⟨ga, 0, none⟩), .agg (s.cells (.slice ka kn kc)).toArray] w fun e w' => e = .returned (errV (ddo a (odOf s)).2) ∧ TwoTo w0 K w ga gb (ddo a (odOf s)).1 b (N + 1) w' :=
  (change_any w A ga a N s _ ⟨_, _, _, rfl⟩ h.l.hd hN h1 h2).mono fun e w' hp => ⟨hp.1, h.to_l (by omega) hp.2⟩
theorem change_r (h : Two w0 w K A B ga gb a b N) (s : Sp) (ka : Option Addr) (kn kc : Nat) (hN : N + 1 < 4294967296) (h1 : s.name.length ≤ 140737488355328) (h2 : s.data.length ≤ 140737488355328) :
    Calls Tryz.prog 13 #[.pointer (some ⟨gb, 0, none⟩), .agg (s.cells (.slice ka kn kc)).toArray] w fun e w' => e = .returned (errV (ddo b (odOf s)).2) ∧ TwoTo w0 K w ga gb a (ddo b (odOf s)).1 (N + 1) w' :=
  (change_any w B gb b N s _ ⟨_, _, _, rfl⟩ h.r.hd hN h1 h2).mono fun e w' hp => ⟨hp.1, h.to_r (by omega) hp.2⟩
end
/-! ### the plain law of DiskStruck -/
theorem drefused_le (d : Dk) (o : Od) : drefused d o ≤ 21 ∧ drefused d o ≠ 20 := by
  cases o <;> simp only [drefused] <;> (repeat' split) <;> omega
theorem Twin.refused {a b : Dk} {k : Nat} {keep : List Int} (h : Twin a b k keep) {o : Od} (hr : drefused b o ≠ 0) : ddo a o = (a, drefused b o) ∧ ddo b o = (b, drefused b o) := by
  obtain ⟨rfl, hc, hp⟩ := h
  have ha : drefused { b with armed := k, fate := keep } o = drefused b o := by cases o <;> rfl
  rw [ddo_no (d := { b with armed := k, fate := keep }) hc.1 (by rw [ha]; exact hr), ddo_no hc.1 hr, ha]
  exact ⟨rfl, rfl⟩
theorem Twin.early {a b : Dk} {k : Nat} {keep : List Int} (h : Twin a b k keep) {o : Od} (hr : drefused b o = 0) (hk : 1 < k) : (ddo a o).2 = 0 ∧ (ddo b o).2 = 0 ∧ Twin (ddo a o).1 (ddo b o).1 (k - 1) keep := by
  obtain ⟨h1, h2, h3⟩ := h.step o (Or.inl hk)
  rw [if_pos hr] at h3
  rw [← h1, h2]
  exact ⟨hr, hr, h3⟩
theorem dbehind_calm {b : Dk} (h : Calm b) (o : Od) : Calm (dbehind b o) := by
  cases o <;> first | exact h | exact h.do _
theorem dbehind_crash {b : Dk} (h : Calm b) (o : Od) (keep : List Int) : dcrash (dbehind b o) keep = dfail (dbehind b o) keep := by
  unfold dcrash
  rw [if_neg (by rw [(dbehind_calm h o).1]; simp)]
theorem Twin.new (room : Int) {k : Nat} (hk : 0 < k) (keep : List Int) : Twin (darm (dnew room) k keep) (dnew room) k keep := ⟨by unfold darm; congr 1; omega, ⟨rfl, rfl⟩, hk⟩
theorem Twin.shown {a b : Dk} {k : Nat} {keep : List Int} (h : Twin a b k keep) : dshown a = dshown b ∧ a.off = false ∧ b.off = false := by
  obtain ⟨rfl, hc, hp⟩ := h
  exact ⟨rfl, hc.1, hc.1⟩
theorem dbehind_none {b : Dk} {s : Sp} (h : s.do_ = 3 ∨ s.do_ = 6) : dbehind b (odOf s) = b := by
  unfold odOf
  rcases h with h | h <;> rw [h] <;> simp [dbehind]
theorem dbehind_some {b : Dk} {s : Sp} (h1 : 1 ≤ s.do_) (h6 : s.do_ < 6) (h3 : s.do_ ≠ 3) : dbehind b (odOf s) = (ddo b (odOf s)).1 ∧ (∀ n, odOf s ≠ .sync n) ∧ odOf s ≠ .flush := by
  have h : s.do_ = 1 ∨ s.do_ = 2 ∨ s.do_ = 4 ∨ s.do_ = 5 := by omega
  unfold odOf
  rcases h with h | h | h | h <;> rw [h] <;> simp [dbehind]
end Go.Proofs.YtfgpigblnkanpaaGreatDoor
