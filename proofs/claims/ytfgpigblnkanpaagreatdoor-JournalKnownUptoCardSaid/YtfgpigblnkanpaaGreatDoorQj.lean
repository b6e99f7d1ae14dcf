/- The document's journal in memory: the walks of Append, Reset. -/
import Derived.Test.YtfgpigblnkanpaaGreatDoorHT
import Derived.Deep.RegionWith
import Derived.Deep.DeepCutAuto
namespace Go.Proofs.YtfgpigblnkanpaaGreatDoor
open Go.RowKit Go.Maps Go.Shelf
set_option linter.unusedVariables false
set_option linter.unusedSimpArgs false

set_option maxHeartbeats 8000000 in
set_option maxRecDepth 100000 in
theorem qAppend_any {w : World} {A : List Nat} {q r : Nat} {d : Dk} {N : Nat} {nm : Nm} {n : Nat} {c : Bool} (h : QJ w A q r d N nm n c) (s : Nm) (hN : N + 2 ≤ 1073741824) (hs : s.length ≤ 4294967296) (hn : n ≤ 4294967296) (hnm : nm.length ≤ 200) :
    Calls Tryz.prog 110 #[.pointer (some ⟨q, 0, none⟩), strV s] w fun e w' => e = .returned (.int .i64 ((jappend d nm n c s).e : Nat)) ∧ QJTo q r (jappend d nm n c s).d (N + 2) nm (jappend d nm n c s).n (jappend d nm n c s).c A w w' := by
  obtain ⟨A1, h1, h2, h3, h4, h5, h6⟩ := h
  have c0 := h2.cell 0
  have c1 := h2.cell 1
  have c2 := h2.cell 2
  have c3 := h2.cell 3
  simp only [List.getElem?_cons_zero, List.getElem?_cons_succ] at c0 c1 c2 c3
  have hsz := str_size s
  have hqj : QJTo q r d (N + 2) nm n c A w w := ⟨A, ⟨A1, h1.mono (by omega), h2, h3, h4, h5, h6⟩, Stp.refl _ _⟩
  have hql := h2.lt
  cases c with
  | true =>
    have HQ := Lib.hid hqj
    clear hqj h1 h2 h3 h4 h5 h6 hql
    go_enter Tryz.func110, Tryz.ntmps110
    go_wp2
    go_ret
    exact ⟨rfl, HQ.out⟩
  | false =>
    by_cases hbig : 16777216 < s.length
    · have e : jappend d nm n false s = ⟨d, 5, false, n⟩ := by unfold jappend; rw [if_neg (by simp), if_pos hbig]
      have hb : (16777216 : Int) < (s.length : Int) := by omega
      rw [e]
      have HQ := Lib.hid hqj
      clear hqj h1 h2 h3 h4 h5 h6 hql e hbig
      go_enter Tryz.func110, Tryz.ntmps110
      go_wp2
      go_ret
      exact ⟨rfl, HQ.out⟩
    · have hfl : (jframe s).length ≤ 33554432 := by
        have := jframe_len s
        have := uintL_len (n := s.length + 1) (by omega)
        omega
      have hap := jappend_run d nm n s (by omega)
      obtain ⟨J, hJ⟩ : ∃ J, jappend d nm n false s = J := ⟨_, rfl⟩
      rw [hJ] at hap
      rw [hJ]
      have hb : ¬ (16777216 : Int) < (s.length : Int) := by omega
      have hF := fun W => qFrame_any s W (by omega)
      have hL := fun W (hb : Below w.heap.size w W) => qrun_lit (h1.below hb) [.write nm (jframe s), .sync nm] (by simp; omega) (fun o ho => by simp at ho; rcases ho with rfl | rfl <;> simp [odSmall] <;> omega) (fun o ho => by simp at ho; rcases ho with rfl | rfl <;> simp [odText]; omega)
      generalize jrun d [.write nm (jframe s), .sync nm] = z at *
      obtain ⟨zd, ze, zk⟩ := z
      simp only at hL hap
      have HAP := Lib.hid hap
      clear hap hJ
      have hnd : ∀ W W', Below w.heap.size w W → Rd2To r zd (N + 2) A1 W W' → QJTo q r zd (N + 2) nm n false A w W' := fun W W' hb ht => by
        have hj := QJ.op (A := A) (h2.below hb hql) h3 h4 h5 ht
        obtain ⟨A', g1, g2⟩ := hj
        exact ⟨A', g1, (Stp.of_below (A := A) (B := A) hb fun k hk => Or.inl hk).trans g2⟩
      have HF := Lib.hid hF
      have HL := Lib.hid hL
      have HND := Lib.hid hnd
      have HQA := Lib.hid h5
      clear hF hL hnd h1 h2 h3 h4 h5 h6 hqj hbig hfl
      go_enter Tryz.func110, Tryz.ntmps110
      go_upto_region 5 with (fail)
      go_cut [5, 6] (fun s5 s6 wx => s5 = .int .i64 (ze : Nat) ∧ s6 = .int .i64 zk ∧ Hid (QJTo q r zd (N + 2) nm n false A w wx))
      case first =>
        go_region_with (first
          | (go_at_call 138; refine (HF.out _).mono ?_; rintro e w1 ⟨rfl, hb1⟩; have k0 := (hb1.cell (p := ⟨q, 0, none⟩) hql).trans c0; have k1 := (hb1.cell (p := ⟨q, 1, none⟩) hql).trans c1; have hq1 : q < w1.heap.size := Nat.lt_of_lt_of_le hql (below_undrew hb1).size)
          | (go_at_call 137; refine (HL.out _ (below_undrew hb1)).mono ?_; rintro e w3 ⟨rfl, h3⟩; have hq3 := HND.out _ _ (below_undrew hb1) h3; have H3 := Lib.hid hq3; clear h3 hq3))
        all_goals
          clear HF HL HND hb1 k0 k1 hq1 c0 c1 c2 c3 hql hb
          go_wp2_with (fail)
          go_meet
          exact ⟨rfl, rfl, H3.out⟩
      case rest =>
        obtain ⟨rfl, rfl, hc⟩ := hcut
        have H3 := Lib.hid hc.out
        obtain ⟨k2, k3, f2, f3, hw3⟩ := hc.out.cells
        clear HF HL HND c0 c1 c2 c3 hql hb hc
        by_cases hz : ze = 0
        · subst hz
          have hfin := H3.out.put 2 (.int .i64 ((n + 1 : Nat) : Int)) (n + 1) false rfl HQA.out
          rw [show (((n + 1 : Nat) : Int)) = (n : Int) + 1 from by omega] at hfin
          have hj : J = ⟨zd, 0, false, n + 1⟩ := by rw [HAP.out]; simp
          have HJ := Lib.hid hj
          have HF := Lib.hid hfin
          clear hfin H3 hj HAP
          go_wp2
          go_ret
          rw [HJ.out]
          exact ⟨rfl, HF.out⟩
        · have hq : ((ze : Int) == 0) = false := by simp; omega
          by_cases h19 : ze = 19 ∧ zk = 2
          · obtain ⟨rfl, rfl⟩ := h19
            have hj : J = ⟨zd, 19, false, n⟩ := by rw [HAP.out]; simp
            have HJ := Lib.hid hj
            clear hz hj HAP
            go_wp2
            go_ret
            rw [HJ.out]
            exact ⟨rfl, H3.out⟩
          · have hfin := H3.out.put 3 (.bool true) n true rfl HQA.out
            have hj : J = ⟨zd, ze, true, n⟩ := by rw [HAP.out, decide_eq_true ⟨hz, by omega⟩, if_neg hz]
            have HJ := Lib.hid hj
            have HF := Lib.hid hfin
            clear hfin H3 hj HAP
            by_cases h9 : ze = 19
            · subst h9
              have hqk : (zk != 2) = true := by
                have : ¬ zk = 2 := fun h => h19 (by simp [h])
                simpa using this
              clear h19 hz hq
              go_wp2
              go_ret
              rw [HJ.out]
              exact ⟨rfl, HF.out⟩
            · have hqe : ((ze : Int) != 19) = true := by simp; omega
              clear h19 h9 hz
              go_wp2
              go_ret
              rw [HJ.out]
              exact ⟨rfl, HF.out⟩
set_option maxHeartbeats 8000000 in
set_option maxRecDepth 100000 in
theorem qReset_any {w : World} {A : List Nat} {q r : Nat} {d : Dk} {N : Nat} {nm : Nm} {n : Nat} {c : Bool} (h : QJ w A q r d N nm n c) (hN : N + 3 ≤ 1073741824) (hn : n ≤ 4294967296) (hnm : nm.length ≤ 200) :
    Calls Tryz.prog 111 #[.pointer (some ⟨q, 0, none⟩)] w fun e w' => e = .returned (.int .i64 ((jreset d nm n c).e : Nat)) ∧ QJTo q r (jreset d nm n c).d (N + 3) nm (jreset d nm n c).n (jreset d nm n c).c A w w' := by
  obtain ⟨A1, h1, h2, h3, h4, h5, h6⟩ := h
  have c0 := h2.cell 0
  have c1 := h2.cell 1
  have c2 := h2.cell 2
  have c3 := h2.cell 3
  simp only [List.getElem?_cons_zero, List.getElem?_cons_succ] at c0 c1 c2 c3
  have hqj : QJTo q r d (N + 3) nm n c A w w := ⟨A, ⟨A1, h1.mono (by omega), h2, h3, h4, h5, h6⟩, Stp.refl _ _⟩
  have hql := h2.lt
  cases c with
  | true =>
    have HQ := Lib.hid hqj
    clear hqj h1 h2 h3 h4 h5 h6 hql
    go_enter Tryz.func111, Tryz.ntmps111
    go_wp2
    go_ret
    exact ⟨rfl, HQ.out⟩
  | false =>
    have hhl : (jhandN nm).length ≤ 201 := by simp [jhandN]; omega
    have hap := jreset_run d nm n
    obtain ⟨J, hJ⟩ : ∃ J, jreset d nm n false = J := ⟨_, rfl⟩
    rw [hJ] at hap
    rw [hJ]
    have hsz := str_size nm
    have happ := str_append nm [126]
    rw [show nm ++ [126] = jhandN nm from rfl] at happ
    have e1 : ({ data := #[126] } : ByteArray) = str [126] := rfl
    have hs126 := str_size [126]
    have hL := fun W (hb : Below w.heap.size w W) => qrun_lit (h1.below hb) [.create (jhandN nm), .rename (jhandN nm) nm, .flush] (by simp; omega) (fun o ho => by simp at ho; rcases ho with rfl | rfl | rfl <;> simp [odSmall] <;> omega) (fun o ho => by simp at ho; rcases ho with rfl | rfl | rfl <;> simp [odText])
    generalize jrun d [.create (jhandN nm), .rename (jhandN nm) nm, .flush] = z at *
    obtain ⟨zd, ze, zk⟩ := z
    simp only at hL hap
    have HAP := Lib.hid hap
    clear hap hJ
    have hnd : ∀ W W', Below w.heap.size w W → Rd2To r zd (N + 3) A1 W W' → QJTo q r zd (N + 3) nm n false A w W' := fun W W' hb ht => by
      have hj := QJ.op (A := A) (h2.below hb hql) h3 h4 h5 ht
      obtain ⟨A', g1, g2⟩ := hj
      exact ⟨A', g1, (Stp.of_below (A := A) (B := A) hb fun k hk => Or.inl hk).trans g2⟩
    have HL := Lib.hid hL
    have HND := Lib.hid hnd
    have HQA := Lib.hid h5
    clear hL hnd h1 h2 h3 h4 h5 h6 hqj
    go_enter Tryz.func111, Tryz.ntmps111
    go_upto_region 4 with (fail)
    go_cut [4] (fun s4 wx => s4 = .int .i64 (ze : Nat) ∧ Hid (QJTo q r zd (N + 3) nm n false A w wx))
    case first =>
      go_region_with (go_at_call 137; refine (HL.out _ (Below.refl _ _).drew).mono ?_; rintro e w3 ⟨rfl, h3⟩; have hq3 := HND.out _ _ (Below.refl _ _).drew h3; have H3 := Lib.hid hq3; clear h3 hq3)
      all_goals
        clear HL HND c0 c1 c2 c3 hql hhl hsz happ e1 hs126
        go_wp2_with (fail)
        go_meet
        exact ⟨rfl, H3.out⟩
    case rest =>
      obtain ⟨rfl, hc⟩ := hcut
      have H3 := Lib.hid hc.out
      obtain ⟨k2, k3, f2, f3, hw3⟩ := hc.out.cells
      clear HL HND c0 c1 c2 c3 hql hhl hsz happ e1 hs126 hc
      by_cases hz : ze = 0
      · subst hz
        have hfin := H3.out.put 2 (.int .i64 ((0 : Nat) : Int)) 0 false rfl HQA.out
        have hj : J = ⟨zd, 0, false, 0⟩ := by rw [HAP.out]; simp
        have HJ := Lib.hid hj
        have HF := Lib.hid hfin
        clear hfin H3 hj HAP
        go_wp2
        go_ret
        rw [HJ.out]
        exact ⟨rfl, HF.out⟩
      · have hq : ((ze : Int) == 0) = false := by simp; omega
        have hfin := H3.out.put 3 (.bool true) n true rfl HQA.out
        have hj : J = ⟨zd, ze, true, n⟩ := by rw [HAP.out, decide_eq_true hz, if_neg hz]
        have HJ := Lib.hid hj
        have HF := Lib.hid hfin
        clear hfin H3 hz hj HAP
        go_wp2
        go_ret
        rw [HJ.out]
        exact ⟨rfl, HF.out⟩
end Go.Proofs.YtfgpigblnkanpaaGreatDoor
