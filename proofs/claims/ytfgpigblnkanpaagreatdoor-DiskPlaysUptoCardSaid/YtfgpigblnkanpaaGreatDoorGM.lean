/- A disk and the document's, beside each other: Read, Revive, and what is no call. A disk and the document's, beside each other: List, Arm, Crash. (printed by gen/gen_pstep.py) -/
import Derived.Test.YtfgpigblnkanpaaGreatDoorRt
import Derived.Test.YtfgpigblnkanpaaGreatDoorApt
import Derived.Test.YtfgpigblnkanpaaGreatDoorGL
import Derived.StillTailTactics
namespace Go.Proofs.YtfgpigblnkanpaaGreatDoor
open Go.RowKit Go.Maps Go.Shelf
set_option linter.unusedVariables false
set_option linter.unusedSimpArgs false

section
variable {w : World} {A : List Nat} {g r : Nat} {d : Dk} {N : Nat} {s : Sp} {ka : Option Addr} {kn kc : Nat}
/-- The world in which a step begins: its two arguments in boxes. -/
def stepW (w : World) (g r : Nat) (s : Sp) (kv : Value) : World := (w.alloc (.cells #[.pointer (some ⟨g, 0, none⟩), .pointer (some ⟨r, 0, none⟩)] 58)).alloc (.cells #[.int .i64 s.do_, .int .i64 s.who, strV s.name, strV s.data, .int .i64 s.n, kv] 36)
theorem stepW_below (w : World) (g r : Nat) (s : Sp) (kv : Value) : Below w.heap.size w (stepW w g r s kv) := ((Below.refl _ w).alloc (Nat.le_refl _) _).alloc (by simp) _
theorem stepW_boxes (w : World) (g r : Nat) (s : Sp) (kv : Value) : Blk (stepW w g r s kv) w.heap.size [.pointer (some ⟨g, 0, none⟩), .pointer (some ⟨r, 0, none⟩)] 58 ∧ Blk (stepW w g r s kv) (w.heap.size + 1) (s.cells kv) 36 := by
  have hb1 := Blk.new (w.alloc (.cells ([.pointer (some ⟨g, 0, none⟩), .pointer (some ⟨r, 0, none⟩)] : List Value).toArray 58)) (s.cells kv) 36
  rw [World.size_alloc] at hb1
  exact ⟨(Blk.new w [.pointer (some ⟨g, 0, none⟩), .pointer (some ⟨r, 0, none⟩)] 58).alloc (.cells (s.cells kv).toArray 36), hb1⟩
end
theorem dread_code (d : Dk) (n : Nm) : (dread d n).2 ≤ 25 := by
  unfold dread
  split
  · exact Nat.le_of_ble_eq_true rfl
  · split
    · exact Nat.le_of_ble_eq_true rfl
    · exact Nat.zero_le _
set_option maxHeartbeats 4000000 in
set_option maxRecDepth 100000 in
theorem pstep_read (w : World) (A : List Nat) (g r : Nat) (d : Dk) (N : Nat) (s : Sp) (ka : Option Addr) (kn kc : Nat) (h : Pr2 g r d d N w A) (hN : N ≤ 1073741824) (h1 : s.name.length ≤ 140737488355328) (hg : ErrorLaid w) (hd : s.do_ = 7) :
    Calls Tryz.prog 23 #[.agg #[.pointer (some ⟨g, 0, none⟩), .pointer (some ⟨r, 0, none⟩)], .agg (s.cells (.slice ka kn kc)).toArray] w fun e w' => e = .returned (.bool true) ∧ Below w.heap.size w w' := by
  have hS := stepW_below w g r s (.slice ka kn kc)
  obtain ⟨A1, A2, ha, hr, -, -, -, -⟩ := (Pr2.res g r d d N).below h hS
  obtain ⟨hx, hy⟩ := stepW_boxes w g r s (.slice ka kn kc)
  have x0 := hx.cell 0
  have x1 := hx.cell 1
  have y0 := hy.cell 0
  have y2 := hy.cell 2
  have hR := Read_hd ha s.name (by omega)
  have hQ := rRead_rd hr hN s.name
  have hcode := dread_code d s.name
  generalize dread d s.name = q at *
  have hpl := fun W (hgW : ErrorLaid W) => Plain_same q.2 W hcode hgW
  have HR := Lib.hid hR
  have HQ := Lib.hid hQ
  have HPL := Lib.hid hpl
  have HS := Lib.hid hS
  have HG := Lib.hid (hg.below hS)
  obtain ⟨do_, who, name, data, n, keep⟩ := s
  simp only at hd
  subst hd
  unfold Sp.cells stepW at *
  simp only [List.getElem?_cons_zero, List.getElem?_cons_succ] at x0 x1 y0 y2
  have hlx := hx.lt
  have hly := hy.lt
  have hqq : ((str q.1).toList == (str q.1).toList) = true := by simp
  clear h ha hr hR hQ hpl hS hx hy hg
  go_enter Tryz.func23, Tryz.ntmps23
  go_wp2_with (fail)
  refine HR.out.mono ?_
  rintro e w1 ⟨rfl, rfl⟩
  go_wp2_with (fail)
  refine HQ.out.mono ?_
  rintro e w2 ⟨rfl, hb2⟩
  have HB2 := Lib.hid hb2
  clear hb2
  go_wp2_with (fail)
  refine (HPL.out _ (HG.out.below HB2.out)).mono ?_
  rintro e w3 ⟨rfl, hb3⟩
  have hres : Below w.heap.size w w3 := HS.out.trans ((HB2.out.trans (hb3.mono HB2.out.size)).mono HS.out.size)
  have HRES := Lib.hid hres
  clear hres hb3
  go_wp2
  go_ret
  exact ⟨rfl, HRES.out⟩
set_option maxHeartbeats 4000000 in
set_option maxRecDepth 100000 in
theorem pstep_revive (w : World) (A : List Nat) (g r : Nat) (d : Dk) (N : Nat) (s : Sp) (ka : Option Addr) (kn kc : Nat) (h : Pr2 g r d d N w A) (hd : s.do_ = 11) :
    Calls Tryz.prog 23 #[.agg #[.pointer (some ⟨g, 0, none⟩), .pointer (some ⟨r, 0, none⟩)], .agg (s.cells (.slice ka kn kc)).toArray] w fun e w' => e = .returned (.bool true) ∧ ResTo (Pr2 g r (drevive d) (drevive d) N) A w w' := by
  have hlt := (Pr2.res g r d d N).lt h
  have hS := stepW_below w g r s (.slice ka kn kc)
  have hH := (Pr2.res g r d d N).below h hS
  obtain ⟨hx, hy⟩ := stepW_boxes w g r s (.slice ka kn kc)
  have hR := Both.callL (E := fun e => e = .returned (.tuple #[])) (R' := fun w A => Hd w A g (drevive d) N) (Rd2.res r d N) (Hd.res _ _ _) hH fun A1 hA1 => Revive_hd hA1
  have x0 := hx.cell 0
  have y0 := hy.cell 0
  have HR := Lib.hid hR
  have HS := Lib.hid hS
  have HX := Lib.hid hx
  have HLT := Lib.hid hlt
  obtain ⟨do_, who, name, data, n, keep⟩ := s
  simp only at hd
  subst hd
  unfold Sp.cells stepW at *
  simp only [List.getElem?_cons_zero, List.getElem?_cons_succ] at x0 y0
  clear h hH hR hS hx hy hlt
  go_enter Tryz.func23, Tryz.ntmps23
  go_wp2_with (fail)
  refine HR.out.mono ?_
  rintro e w1 ⟨rfl, A1, hB1, hs1⟩
  have hx1 := hs1.blk HX.out (fun hm => by have := HLT.out _ hm; omega)
  have x1 := hx1.cell 1
  simp only [List.getElem?_cons_zero, List.getElem?_cons_succ] at x1
  have hQ := Both.callR (E := fun e => e = .returned (.tuple #[])) (S' := fun w A => Rd2 w A r (drevive d) N) (Hd.res g (drevive d) N) (Rd2.res _ _ _) hB1 fun A2 hA2 => rRevive_rd hA2
  have HQ := Lib.hid hQ
  have HS1 : Hid (Stp A A1 w w1) := (Stp.of_below (A := A) (B := A) HS.out fun k hk => Or.inl hk).trans hs1
  clear hQ hB1 hs1 hx1 HR
  go_wp2_with (fail)
  refine HQ.out.mono ?_
  rintro e w2 ⟨rfl, A2, hB2, hs2⟩
  have hres : ResTo (Pr2 g r (drevive d) (drevive d) N) A w w2 := ⟨A2, hB2, HS1.out.trans hs2⟩
  have HRES := Lib.hid hres
  clear hres hB2 hs2
  go_wp2
  go_ret
  exact ⟨rfl, HRES.out⟩
set_option maxHeartbeats 4000000 in
set_option maxRecDepth 100000 in
theorem pstep_none (w : World) (g r : Nat) (s : Sp) (ka : Option Addr) (kn kc : Nat) (hd : s.do_ < 1 ∨ 11 < s.do_) :
    Calls Tryz.prog 23 #[.agg #[.pointer (some ⟨g, 0, none⟩), .pointer (some ⟨r, 0, none⟩)], .agg (s.cells (.slice ka kn kc)).toArray] w fun e w' => e = .returned (.bool true) ∧ Below w.heap.size w w' := by
  have hS := stepW_below w g r s (.slice ka kn kc)
  obtain ⟨hx, hy⟩ := stepW_boxes w g r s (.slice ka kn kc)
  have y0 := hy.cell 0
  have HS := Lib.hid hS
  obtain ⟨do_, who, name, data, n, keep⟩ := s
  simp only at hd
  unfold Sp.cells stepW at *
  simp only [List.getElem?_cons_zero, List.getElem?_cons_succ] at y0
  have q1 : (do_ == 1) = false := by simp; omega
  have q2 : (do_ == 2) = false := by simp; omega
  have q3 : (do_ == 3) = false := by simp; omega
  have q4 : (do_ == 4) = false := by simp; omega
  have q5 : (do_ == 5) = false := by simp; omega
  have q6 : (do_ == 6) = false := by simp; omega
  have q7 : (do_ == 7) = false := by simp; omega
  have q8 : (do_ == 8) = false := by simp; omega
  have q9 : (do_ == 9) = false := by simp; omega
  have q10 : (do_ == 10) = false := by simp; omega
  have q11 : (do_ == 11) = false := by simp; omega
  clear hS hx hy hd
  go_enter Tryz.func23, Tryz.ntmps23
  go_wp2
  go_ret
  exact ⟨rfl, HS.out⟩
end Go.Proofs.YtfgpigblnkanpaaGreatDoor

namespace Go.Proofs.YtfgpigblnkanpaaGreatDoor
open Go.RowKit Go.Maps Go.Shelf
set_option linter.unusedVariables false
set_option linter.unusedSimpArgs false

section
variable {R S R' S' : World → List Nat → Prop} {w : World} {A : List Nat} {f : FuncId} {args : Array Value} {E : Ending → Prop}
theorem Both.callLs (hS : Res S) (hR' : Res R') (h : Both R S w A) (hc : ∀ A1, R w A1 → (∀ k ∈ A1, k ∈ A) → Calls Tryz.prog f args w fun e w' => E e ∧ ResTo R' A1 w w') : Calls Tryz.prog f args w fun e w' => E e ∧ ResTo (Both R' S) A w w' := by
  obtain ⟨A1, A2, h1, h2, h3, h4, h5, h6⟩ := h
  exact (hc A1 h1 h4).mono fun e w' ⟨he, A', h7, h8⟩ => ⟨he, Both.step hS h2 h3 h4 h5 hR' h7 h8⟩
theorem Both.callRs (hR : Res R) (hS' : Res S') (h : Both R S w A) (hc : ∀ A2, S w A2 → (∀ k ∈ A2, k ∈ A) → Calls Tryz.prog f args w fun e w' => E e ∧ ResTo S' A2 w w') : Calls Tryz.prog f args w fun e w' => E e ∧ ResTo (Both R S') A w w' :=
  (h.swap.callLs hR hS' hc).mono fun e w' ⟨he, hp⟩ => ⟨he, hp.map fun B hB => hB.swap⟩
theorem Rd2.mem {g : Nat} {d : Dk} {N : Nat} (h : Rd2 w A g d N) : g ∈ A := by
  obtain ⟨fv, nv, sv, pv, kv, h1, h2, h3, h4⟩ := h
  exact h3 g (rfoot_mem.2 (Or.inl rfl))
end
theorem dlist_len (d : Dk) (head : List UInt8) : (dlist d head).length ≤ d.now.length := by
  unfold dlist
  split
  · exact Nat.zero_le _
  · exact tlist_len d.now head
theorem list_code (d : Dk) : ∃ co : Nat, errV (if d.off = true then 20 else 0) = errV co ∧ (if d.off = true then (20 : Int) else 0) = (co : Int) ∧ co ≤ 25 := by
  by_cases h : d.off = true
  · exact ⟨20, by rw [if_pos h], by rw [if_pos h]; rfl, by decide⟩
  · exact ⟨0, by rw [if_neg h], by rw [if_neg h]; rfl, by decide⟩
theorem row_less {w : World} {B B' : Nat} {e : TypeId} {size : Nat} {v : Value} {n : Nat} {xs : List Value} (h : w.ownsRow B e size v n xs) (hb : B' ≤ B) : w.ownsRow B' e size v n xs := by
  rcases h.2 with h0 | ⟨g, cap, cur, h1, h2, h3⟩
  · exact ⟨h.1, Or.inl h0⟩
  · exact ⟨h.1, Or.inr ⟨g, cap, cur, h1, Nat.le_trans hb h2, h3⟩⟩
/-- Two lists, each in memory of its own, handed on. -/
theorem fam_two {w : World} {B : Nat} {va vb : Value} {L : List Nm} (ha : w.ownsRow B 9 1 va L.length (L.map strV)) (hb : w.ownsRow B 9 1 vb L.length (L.map strV)) (hab : va.ownBlock = none ∨ va.ownBlock ≠ vb.ownBlock) (hba : vb.ownBlock = none ∨ vb.ownBlock ≠ va.ownBlock) :
    Fam (w.alloc (.cells #[va, vb] 37)) B w.heap.size 2 (fun k => if k = 0 then va else vb) (fun _ => L.length) (fun _ => L) := by
  have hx := Blk.new w [va, vb] 37
  have x0 := hx.cell 0
  have x1 := hx.cell 1
  simp only [List.getElem?_cons_zero, List.getElem?_cons_succ] at x0 x1
  refine ⟨fun k hk => ?_, fun k hk => rfl, fun k hk => ?_, fun k hk => ?_, fun j k hj hk hne => ?_, by simp⟩
  · by_cases e : k = 0
    · rw [if_pos e, e]; exact x0
    · have e1 : k = 1 := by omega
      rw [if_neg e, e1]; exact x1
  · by_cases e : k = 0
    · simp only [if_pos e]; exact ha.alloc _
    · simp only [if_neg e]; exact hb.alloc _
  · by_cases e : k = 0
    · simp only [if_pos e]; intro e2; have := (ha.lt _ e2).2; omega
    · simp only [if_neg e]; intro e2; have := (hb.lt _ e2).2; omega
  · by_cases e : j = 0
    · have e1 : ¬ k = 0 := by omega
      simp only [if_pos e, if_neg e1]; exact hab
    · have e1 : k = 0 := by omega
      simp only [if_neg e, if_pos e1]; exact hba
set_option maxHeartbeats 8000000 in
set_option maxRecDepth 100000 in
theorem pstep_list (w : World) (A : List Nat) (g r : Nat) (d : Dk) (N : Nat) (s : Sp) (ka : Option Addr) (kn kc : Nat) (h : Pr2 g r d d N w A) (hN : N ≤ 1073741824) (h2 : s.data.length ≤ 140737488355328) (hg : ErrorLaid w) (hd : s.do_ = 8) :
    Calls Tryz.prog 23 #[.agg #[.pointer (some ⟨g, 0, none⟩), .pointer (some ⟨r, 0, none⟩)], .agg (s.cells (.slice ka kn kc)).toArray] w fun e w' => e = .returned (.bool true) ∧ Below w.heap.size w w' := by
  have hS := stepW_below w g r s (.slice ka kn kc)
  obtain ⟨A1, A2, ha, hr, -, -, -, -⟩ := (Pr2.res g r d d N).below h hS
  obtain ⟨hx, hy⟩ := stepW_boxes w g r s (.slice ka kn kc)
  have x0 := hx.cell 0
  have x1 := hx.cell 1
  have y0 := hy.cell 0
  have y3 := hy.cell 3
  obtain ⟨co, hc1, hc2, hcode⟩ := list_code d
  have hll := dlist_len d s.data
  have hnl := ha.bd.now
  have hL1 := fun W (hb : Below (stepW w g r s (.slice ka kn kc)).heap.size (stepW w g r s (.slice ka kn kc)) W) => List_hd (ha.below hb) (by omega) s.data (by omega)
  have hL2 := fun W (hb : Below (stepW w g r s (.slice ka kn kc)).heap.size (stepW w g r s (.slice ka kn kc)) W) => rList_rd (hr.below hb) hN s.data
  unfold ListPost at hL1
  rw [hc1] at hL1
  rw [hc2] at hL2
  have hpl := fun W (hgW : ErrorLaid W) => Plain_same co W hcode hgW
  have hLn : (dlist d s.data).length ≤ 4294967296 := by omega
  clear hc1 hc2 hll hnl
  generalize dlist d s.data = L at *
  have HL1 := Lib.hid hL1
  have HL2 := Lib.hid hL2
  have HPL := Lib.hid hpl
  have HS := Lib.hid hS
  have HG := Lib.hid (hg.below hS)
  obtain ⟨do_, who, name, data, n, keep⟩ := s
  simp only at hd
  subst hd
  unfold Sp.cells at hy y0 y3 ⊢
  simp only [List.getElem?_cons_zero, List.getElem?_cons_succ] at x0 x1 y0 y3
  have hlx := hx.lt
  have hly := hy.lt
  have X0 := Lib.hid x0
  have X1 := Lib.hid x1
  have Y3 := Lib.hid y3
  unfold stepW at x0 x1 y0 y3
  simp only at x0 x1 y0 y3
  clear h ha hr hL1 hL2 hpl hS hx hy hg
  go_enter Tryz.func23, Tryz.ntmps23
  go_wp2_with (fail)
  change Calls _ _ _ (stepW w g r ⟨8, who, name, data, n, keep⟩ (.slice ka kn kc)) _
  clear x0 x1 y0 y3
  have x0 := X0.out
  have x1 := X1.out
  have y3 := Y3.out
  clear X0 X1 Y3
  generalize stepW w g r ⟨8, who, name, data, n, keep⟩ (.slice ka kn kc) = W0 at *
  refine (HL1.out _ (Below.refl _ _)).mono ?_
  rintro e w1 ⟨v1, rfl, ho1, -, hb1⟩
  have x0 := (hb1.cell (p := ⟨w.heap.size, 0, none⟩) hlx).trans x0
  have x1 := (hb1.cell (p := ⟨w.heap.size, 1, none⟩) hlx).trans x1
  have y3 := (hb1.cell (p := ⟨w.heap.size + 1, 3, none⟩) hly).trans y3
  go_wp2_with (fail)
  refine (HL1.out _ hb1).mono ?_
  rintro e w2 ⟨v2, rfl, ho2, -, hb2⟩
  have hs1 := hb1.size
  have hb02 := hb1.trans (hb2.mono hs1)
  have x1 := (hb2.cell (p := ⟨w.heap.size, 1, none⟩) (show w.heap.size < w1.heap.size by omega)).trans x1
  have y3 := (hb2.cell (p := ⟨w.heap.size + 1, 3, none⟩) (show w.heap.size + 1 < w1.heap.size by omega)).trans y3
  go_wp2_with (fail)
  refine (HL2.out _ hb02).mono ?_
  rintro e w3 ⟨v3, rfl, ho3, hb3⟩
  have hb03 := hb02.trans (hb3.mono hb02.size)
  have hs2 := hb2.size
  have hs3 := hb3.size
  obtain ⟨a1, c1, rfl⟩ := row_shape ho1
  obtain ⟨a2, c2, rfl⟩ := row_shape ho2
  obtain ⟨a3, c3, rfl⟩ := row_shape ho3
  have p1 : w3.ownsRow W0.heap.size 9 1 (.slice a1 L.length c1) L.length (L.map strV) := row_below (row_below ho1 hb2) hb3
  have p2 : w3.ownsRow W0.heap.size 9 1 (.slice a2 L.length c2) L.length (L.map strV) := row_less (row_below ho2 hb3) hs1
  have hap : (Value.slice a1 L.length c1).ownBlock = none ∨ (Value.slice a1 L.length c1).ownBlock ≠ (Value.slice a2 L.length c2).ownBlock := by
    cases hq : (Value.slice a1 L.length c1).ownBlock with
    | none => exact Or.inl rfl
    | some b =>
      refine Or.inr fun e => ?_
      have z1 := (ho1.lt b hq).2
      have z2 := (ho2.lt b e.symm).1
      omega
  have hap2 : (Value.slice a2 L.length c2).ownBlock = none ∨ (Value.slice a2 L.length c2).ownBlock ≠ (Value.slice a1 L.length c1).ownBlock := by
    rcases hap with e | e
    · cases hq : (Value.slice a2 L.length c2).ownBlock with
      | none => exact Or.inl rfl
      | some b => exact Or.inr (by rw [e]; simp)
    · exact Or.inr fun e2 => e e2.symm
  have s1 := ShapeT.own p1
  have s2 := ShapeT.own p2
  have s3 := ShapeT.own ho3
  have hST1 := SameTexts_sh w3 _ _ L L s1 s3 (by omega) (by omega)
  have hST2 := fun q => SameTexts_sh (w3.drewN q) _ _ L L (s2.below (below_drewN (Below.refl _ _) q)) (s3.below (below_drewN (Below.refl _ _) q)) (by omega) (by omega)
  simp only [decide_true] at hST1 hST2
  have HST1 := Lib.hid hST1
  have HST2 := Lib.hid hST2
  have HB03 := Lib.hid hb03
  have HP1 := Lib.hid p1
  have HP2 := Lib.hid p2
  clear ho1 ho2 ho3 hb1 hb2 hb3 hb02 hb03 hST1 hST2 s1 s2 s3 p1 p2 x0 x1 y3 HL1 HL2
  go_wp2_with (fail)
  refine HST1.out.mono ?_
  rintro e w4 ⟨rfl, q4, rfl⟩
  go_wp2_with (fail)
  refine (HST2.out q4).mono ?_
  rintro e w5 ⟨rfl, q5, rfl⟩
  have hb5 : Below W0.heap.size W0 ((w3.drewN q4).drewN q5) := below_drewN (below_drewN HB03.out q4) q5
  have HB5 := Lib.hid hb5
  have hg5 := HG.out.below hb5
  have HG5 := Lib.hid hg5
  have HPA := Lib.hid (row_below HP1.out (below_drewN (below_drewN (Below.refl w3.heap.size w3) q4) q5))
  have HPB := Lib.hid (row_below HP2.out (below_drewN (below_drewN (Below.refl w3.heap.size w3) q4) q5))
  clear hb5 hg5 HST1 HST2 HP1 HP2 HB03
  generalize (w3.drewN q4).drewN q5 = w6 at *
  go_wp2_with (fail)
  refine (HPL.out _ HG5.out).mono ?_
  rintro e w7 ⟨rfl, hb7⟩
  have HB7 := Lib.hid (HB5.out.trans (hb7.mono HB5.out.size))
  have HPA7 := Lib.hid (row_below HPA.out hb7)
  have HPB7 := Lib.hid (row_below HPB.out hb7)
  clear hb7 HPA HPB HB5 HG5
  go_wp2_with (fail)
  refine (HPL.out _ (HG.out.below HB7.out)).mono ?_
  rintro e w8 ⟨rfl, hb8⟩
  have hb08 := HB7.out.trans (hb8.mono HB7.out.size)
  have hF := fam_two (row_below HPA7.out hb8) (row_below HPB7.out hb8) hap hap2
  have hz8 := hb08.size
  have hAP := ApartTexts_any _ W0.heap.size w8.heap.size w.heap.size 2 2 _ _ _ hF (by omega) (fun k hk => hLn) (by simp; omega) (fun k hk e => by have := (hF.own k hk).lt _ e; omega) (by simp; omega)
  have HAP := Lib.hid hAP
  have HB8 := Lib.hid (hb08.alloc hz8 (.cells #[.slice a1 L.length c1, .slice a2 L.length c2] 37))
  clear hF hAP hb08 hb8 HPA7 HPB7 HB7
  go_wp2_with (fail)
  refine HAP.out.mono ?_
  rintro e w9 ⟨rfl, hsp⟩
  have hres : Below w.heap.size w w9 := HS.out.trans ((HB8.out.trans hsp.1).mono HS.out.size)
  have HRES := Lib.hid hres
  clear hres hsp
  go_wp2
  go_ret
  exact ⟨rfl, HRES.out⟩
end Go.Proofs.YtfgpigblnkanpaaGreatDoor
