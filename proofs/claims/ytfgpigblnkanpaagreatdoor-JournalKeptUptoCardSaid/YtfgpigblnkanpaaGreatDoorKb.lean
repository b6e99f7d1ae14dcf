/- The walk of the journal's Reset. -/
import Derived.Test.YtfgpigblnkanpaaGreatDoorKa
import Derived.StillTailTactics
namespace Go.Proofs.YtfgpigblnkanpaaGreatDoor
open Go.RowKit Go.Maps Go.Shelf
set_option linter.unusedVariables false
set_option linter.unusedSimpArgs false

set_option maxHeartbeats 4000000 in
set_option maxRecDepth 100000 in
theorem jReset_any {w0 w : World} {K A : List Nat} {jb g : Nat} {d : Dk} {N : Nat} {nm : Nm} {n : Nat} {c : Bool} (h : Jl w0 w K A jb g d N nm n c) (hN : N + 3 < 4294967296) : Calls Tryz.prog 47 #[.pointer (some ⟨jb, 0, none⟩)] w fun e w' => e = .returned (errV (jreset d nm n c).e) ∧ JlTo w0 K w jb g (jreset d nm n c).d (N + 3) nm (jreset d nm n c).n (jreset d nm n c).c w' := by
  obtain ⟨c0, c1, c2, c3⟩ := h.cells
  have hlen := h.len
  have hhl := jhandN_len hlen
  cases c with
  | true =>
    have hh : JlTo w0 K w jb g d (N + 3) nm n true w := ⟨⟨A, h.mono (by omega)⟩, fun _ _ => rfl⟩
    have HH := Lib.hid hh
    clear h hh
    go_enter Tryz.func47, Tryz.ntmps47
    go_wp2_with (fail)
    go_ret
    exact ⟨rfl, HH.out⟩
  | false =>
    obtain ⟨J, hJ⟩ : ∃ J, jreset d nm n false = J := ⟨_, rfl⟩
    have hj := hJ
    unfold jreset at hj
    rw [if_neg (by simp)] at hj
    have HJ := Lib.hid hJ
    rw [hJ]
    clear hJ
    have HH := h.hand
    have HO := Lib.hid (jl_create h (Below.refl _ _).drew (by omega) (jhandN nm) (by omega))
    clear h
    go_enter Tryz.func47, Tryz.ntmps47
    go_upto_region 3 with (fail)
    refine wp_region_still_tail 6 (by kernel_rfl) (by kernel_rfl) ?_
    simp only [List.take_succ_cons, List.take_zero, List.drop_succ_cons, List.drop_zero]
    repeat still_step
    still_call HH
    refine wpStill_nil ?_
    go_wp2_with (fail)
    refine HO.out.mono ?_
    rintro e w1 ⟨rfl, ⟨A1, h1⟩, hk1⟩
    clear HO HH c0 c1 c2 c3
    generalize (ddo d (.create (jhandN nm))).2 = e1 at *
    generalize (ddo d (.create (jhandN nm))).1 = d1 at *
    obtain ⟨c0, c1, c2, c3⟩ := h1.cells
    by_cases z1 : e1 = 0
    · subst z1
      rw [if_neg (by simp)] at hj
      rw [errV_none]
      have HH := h1.hand
      have HO := Lib.hid (jl_rename h1 (Below.refl _ _).drew (by omega) (jhandN nm) nm (by omega) (by omega))
      have HK1 := Lib.hid hk1
      clear h1 hk1
      go_upto_region 5 with (fail)
      refine wp_region_still_tail 10 (by kernel_rfl) (by kernel_rfl) ?_
      simp only [List.take_succ_cons, List.take_zero, List.drop_succ_cons, List.drop_zero]
      repeat still_step
      still_call HH
      repeat still_step
      refine wpStill_nil ?_
      go_wp2_with (fail)
      refine HO.out.mono ?_
      rintro e w2 ⟨rfl, ⟨A2, h2⟩, hk2⟩
      clear HO HH c0 c1 c2 c3
      generalize (ddo d1 (.rename (jhandN nm) nm)).2 = e2 at *
      generalize (ddo d1 (.rename (jhandN nm) nm)).1 = d2 at *
      obtain ⟨c0, c1, c2, c3⟩ := h2.cells
      by_cases z2 : e2 = 0
      · subst z2
        rw [if_neg (by simp)] at hj
        rw [errV_none]
        have HO := Lib.hid (jl_flush h2 (Below.refl _ _) (by omega))
        have HK2 := Lib.hid fun k hk => (hk2 k hk).trans (HK1.out k hk)
        clear h2 hk2 HK1
        go_wp2_with (fail)
        refine HO.out.mono ?_
        rintro e w3 ⟨rfl, ⟨A3, h3⟩, hk3⟩
        clear HO c0 c1 c2 c3
        generalize (ddo d2 .flush).2 = e3 at *
        generalize (ddo d2 .flush).1 = d3 at *
        have hk4 : ∀ k ∈ K, w3.heap[k]? = w.heap[k]? := fun k hk => (hk3 k hk).trans (HK2.out k hk)
        by_cases z3 : e3 = 0
        · subst z3
          rw [if_neg (by simp)] at hj
          rw [errV_none]
          obtain ⟨c0, c1, c2, c3⟩ := h3.cells
          have hf2 := h3.j.free 2
          have hcn := h3.count 0
          have hsh := jshut_any hcn.1 0
          rw [errV_none] at hsh
          have HS := Lib.hid hsh
          have HK4 := Lib.hid fun k hk => (hcn.2 k hk).trans (hk4 k hk)
          clear h3 hk3 hk4 hcn hsh HK2
          go_wp2_with (fail)
          refine HS.out.mono ?_
          rintro e w4 ⟨rfl, ⟨A4, h4⟩, hk4⟩
          have hres : JlTo w0 K w jb g J.d (N + 3) nm J.n J.c w4 := by
            rw [← hj]
            exact ⟨⟨A4, by have h5 := h4.mono (show _ ≤ N + 3 by omega); simpa using h5⟩, fun k hk => (hk4 k hk).trans (HK4.out k hk)⟩
          have HRES := Lib.hid hres
          have he : J.e = 0 := by rw [← hj]
          clear h4 hk4 hres HS HK4 hj
          go_wp2
          go_ret
          exact ⟨by (rw [he, errV_none]; first | done | rfl), HRES.out⟩
        · rw [if_pos z3] at hj
          have hsh := jshut_any h3 e3
          rw [errV_some z3] at hsh ⊢
          have HS := Lib.hid hsh
          have HK4 := Lib.hid hk4
          have HZ := Lib.hid z3
          clear h3 hk3 hk4 hsh HK2 z3
          go_wp2_with (fail)
          refine HS.out.mono ?_
          rintro e w4 ⟨rfl, ⟨A4, h4⟩, hk4⟩
          have hres : JlTo w0 K w jb g J.d (N + 3) nm J.n J.c w4 := by
            rw [← hj]
            have hz := HZ.out
            exact ⟨⟨A4, by have h5 := h4.mono (show _ ≤ N + 3 by omega); rw [Bool.false_or, show (_ != 0) = true from bne_iff_ne.2 hz] at h5; exact h5⟩, fun k hk => (hk4 k hk).trans (HK4.out k hk)⟩
          have HRES := Lib.hid hres
          have he : J.e = e3 := by rw [← hj]
          clear h4 hk4 hres HS HK4 hj
          go_wp2
          go_ret
          exact ⟨by (rw [he, errV_some HZ.out]; first | done | rfl), HRES.out⟩
      · rw [if_pos z2] at hj
        have hsh := jshut_any h2 e2
        rw [errV_some z2] at hsh ⊢
        have HS := Lib.hid hsh
        have HK4 := Lib.hid fun k hk => (hk2 k hk).trans (HK1.out k hk)
        have HZ := Lib.hid z2
        clear h2 hk2 hsh HK1 z2
        go_wp2_with (fail)
        refine HS.out.mono ?_
        rintro e w4 ⟨rfl, ⟨A4, h4⟩, hk4⟩
        have hres : JlTo w0 K w jb g J.d (N + 3) nm J.n J.c w4 := by
          rw [← hj]
          have hz := HZ.out
          exact ⟨⟨A4, by have h5 := h4.mono (show _ ≤ N + 3 by omega); rw [Bool.false_or, show (_ != 0) = true from bne_iff_ne.2 hz] at h5; exact h5⟩, fun k hk => (hk4 k hk).trans (HK4.out k hk)⟩
        have HRES := Lib.hid hres
        have he : J.e = e2 := by rw [← hj]
        clear h4 hk4 hres HS HK4 hj
        go_wp2
        go_ret
        exact ⟨by (rw [he, errV_some HZ.out]; first | done | rfl), HRES.out⟩
    · rw [if_pos z1] at hj
      have hsh := jshut_any h1 e1
      rw [errV_some z1] at hsh ⊢
      have HS := Lib.hid hsh
      have HK4 := Lib.hid hk1
      have HZ := Lib.hid z1
      clear h1 hk1 hsh z1
      go_wp2_with (fail)
      refine HS.out.mono ?_
      rintro e w4 ⟨rfl, ⟨A4, h4⟩, hk4⟩
      have hres : JlTo w0 K w jb g J.d (N + 3) nm J.n J.c w4 := by
        rw [← hj]
        have hz := HZ.out
        exact ⟨⟨A4, by have h5 := h4.mono (show _ ≤ N + 3 by omega); rw [Bool.false_or, show (_ != 0) = true from bne_iff_ne.2 hz] at h5; exact h5⟩, fun k hk => (hk4 k hk).trans (HK4.out k hk)⟩
      have HRES := Lib.hid hres
      have he : J.e = e1 := by rw [← hj]
      clear h4 hk4 hres HS HK4 hj
      go_wp2
      go_ret
      exact ⟨by (rw [he, errV_some HZ.out]; first | done | rfl), HRES.out⟩
end Go.Proofs.YtfgpigblnkanpaaGreatDoor
