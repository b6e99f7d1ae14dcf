/- A journal's play: an act. -/
import Derived.Test.YtfgpigblnkanpaaGreatDoorSb
import Derived.Test.YtfgpigblnkanpaaGreatDoorSe
import Derived.Test.YtfgpigblnkanpaaGreatDoorQj
namespace Go.Proofs.YtfgpigblnkanpaaGreatDoor
open Go.RowKit Go.Maps Go.Shelf
set_option linter.unusedVariables false
set_option linter.unusedSimpArgs false

/-- Both journals are open. -/
def S1 (w0 w : World) (wb g r N : Nat) (nm : Nm) : Prop := ∃ d jb q n c, n ≤ 268435456 + N ∧ Fw w0 w wb g r (.pointer (some ⟨jb, 0, none⟩)) (.pointer (some ⟨q, 0, none⟩)) (some (jb, n, c)) (some (q, n, c)) d d N nm
theorem S1.mono {w0 w : World} {wb g r N N' : Nat} {nm : Nm} (h : S1 w0 w wb g r N nm) (hm : N ≤ N') : S1 w0 w wb g r N' nm := by
  obtain ⟨d, jb, q, n, c, h1, h2⟩ := h
  exact ⟨d, jb, q, n, c, by omega, h2.mono hm⟩
theorem jappend_codeA (d : Dk) (nm : Nm) (n : Nat) (c : Bool) (r : Nm) : (jappend d nm n c r).e ≤ 25 := by
  cases c with
  | true => unfold jappend; rw [if_pos rfl]; simp
  | false => exact jappend_code d nm n r
theorem jappend_countA (d : Dk) (nm : Nm) (n : Nat) (c : Bool) (r : Nm) : (jappend d nm n c r).n ≤ n + 1 := by
  cases c with
  | true => unfold jappend; rw [if_pos rfl]; simp
  | false => rw [jappend_noted]; split <;> omega
theorem jreset_codeA (d : Dk) (nm : Nm) (n : Nat) (c : Bool) : (jreset d nm n c).e ≤ 25 := by
  cases c with
  | true => unfold jreset; rw [if_pos rfl]; simp
  | false => rw [jreset_run]; exact jrun_code _ _
theorem jreset_countA (d : Dk) (nm : Nm) (n : Nat) (c : Bool) : (jreset d nm n c).n ≤ n := by
  cases c with
  | true => unfold jreset; rw [if_pos rfl]; simp
  | false => rw [jreset_run]; simp only; split <;> omega
section
variable {w0 w : World} {wb ab g r jb q n : Nat} {c : Bool} {xs : List Value} {jv qv : Value} {jo qo : Jo} {d e : Dk} {N : Nat} {nm : Nm}
theorem Fs.qApp (h : Fs w0 w wb ab g r xs jv qv jo (some (q, n, c)) d e N nm) (s : Nm) (hN : N + 2 ≤ 1073741824) (hs : s.length ≤ 4294967296) (hn : n ≤ 4294967296) (hnm : nm.length ≤ 199) {J : Jr} (hJ : jappend e nm n c s = J) :
    Calls Tryz.prog 110 #[.pointer (some ⟨q, 0, none⟩), strV s] w fun x w' => x = .returned (.int .i64 (J.e : Nat)) ∧ Fs w0 w' wb ab g r xs jv qv jo (some (q, J.n, J.c)) d J.d (N + 2) nm := by
  subst hJ
  exact h.callK (E := fun x => x = .returned (.int .i64 ((jappend e nm n c s).e : Nat))) (by omega) fun A hA => qAppend_any hA s hN hs hn (by omega)
theorem Fs.jApp (h : Fs w0 w wb ab g r xs jv qv (some (jb, n, c)) qo d e N nm) (s : Nm) (hN : N + 2 ≤ 1073741824) (hs : s.length ≤ 4294967296) (hn : n ≤ 4294967296) {J : Jr} (hJ : jappend d nm n c s = J) :
    Calls Tryz.prog 48 #[.pointer (some ⟨jb, 0, none⟩), strV s] w fun x w' => x = .returned (errV J.e) ∧ Fs w0 w' wb ab g r xs jv qv (some (jb, J.n, J.c)) qo J.d e (N + 2) nm := by
  subst hJ
  exact h.callJ (E := fun x => x = .returned (errV (jappend d nm n c s).e)) (by omega) fun K A hA => jAppend_any hA s (by omega) hs hn
theorem Fs.qRes (h : Fs w0 w wb ab g r xs jv qv jo (some (q, n, c)) d e N nm) (hN : N + 3 ≤ 1073741824) (hn : n ≤ 4294967296) (hnm : nm.length ≤ 199) {J : Jr} (hJ : jreset e nm n c = J) :
    Calls Tryz.prog 111 #[.pointer (some ⟨q, 0, none⟩)] w fun x w' => x = .returned (.int .i64 (J.e : Nat)) ∧ Fs w0 w' wb ab g r xs jv qv jo (some (q, J.n, J.c)) d J.d (N + 3) nm := by
  subst hJ
  exact h.callK (E := fun x => x = .returned (.int .i64 ((jreset e nm n c).e : Nat))) (by omega) fun A hA => qReset_any hA hN hn (by omega)
theorem Fs.jRes (h : Fs w0 w wb ab g r xs jv qv (some (jb, n, c)) qo d e N nm) (hN : N + 3 ≤ 1073741824) {J : Jr} (hJ : jreset d nm n c = J) :
    Calls Tryz.prog 47 #[.pointer (some ⟨jb, 0, none⟩)] w fun x w' => x = .returned (errV J.e) ∧ Fs w0 w' wb ab g r xs jv qv (some (jb, J.n, J.c)) qo J.d e (N + 3) nm := by
  subst hJ
  exact h.callJ (E := fun x => x = .returned (errV (jreset d nm n c).e)) (by omega) fun K A hA => jReset_any hA (by omega)
end
set_option maxHeartbeats 8000000 in
set_option maxRecDepth 100000 in
theorem do_any {w0 w : World} {wb g r jb q n : Nat} {c : Bool} {d : Dk} {N : Nat} {nm : Nm} (h : Fw w0 w wb g r (.pointer (some ⟨jb, 0, none⟩)) (.pointer (some ⟨q, 0, none⟩)) (some (jb, n, c)) (some (q, n, c)) d d N nm) (hn : n ≤ 268435456 + N) (a : Ac) (ma : Option Addr) (mn mc : Nat) (hi : IntsAt w0 (.slice ma mn mc) a.keep) (ho : AcOk a) (hN : N + 20 ≤ 1073741824) (hnl : nm.length ≤ 199) (hg : ErrorLaid w0) :
    Calls Tryz.prog 55 #[.pointer (some ⟨wb, 0, none⟩), .agg #[.int .i64 a.kind, strV a.text, .int .i64 a.n, .slice ma mn mc]] w fun e w' => e = .returned (.bool true) ∧ S1 w0 w' wb g r (N + 20) nm := by
  have hs := h.enter [.int .i64 a.kind, strV a.text, .int .i64 a.n, .slice ma mn mc]
  have hFi := fun W (hW : Fw w0 W wb g r (.pointer (some ⟨jb, 0, none⟩)) (.pointer (some ⟨q, 0, none⟩)) (some (jb, n, c)) (some (q, n, c)) d d N nm) => files_any hW a ma mn mc hi ho (by omega) (by omega) hg
  have htl : a.text.length ≤ 1048576 := ho.1
  obtain ⟨kd, tx, an, keep⟩ := a
  simp only at hs hFi htl ⊢
  obtain ⟨m, hm⟩ : ∃ m : Int, kd % 9 = m := ⟨_, rfl⟩
  have hmc : m = 0 ∨ m = 1 ∨ m = 2 ∨ m = 3 ∨ m = 4 ∨ m = 5 ∨ m = 6 ∨ m = 7 ∨ m = 8 := by omega
  have HM := Lib.hid hm
  have HG := Lib.hid hg
  have HFI := Lib.hid hFi
  have HS0 := Lib.hid hs
  have HN0 := Lib.hid hn
  obtain ⟨c0, c1, c2, c3, c4, hwl⟩ := hs.leave.cells
  obtain ⟨y0, y1, y2, y3, hal⟩ := hs.acells
  clear h hi ho hg hm hs hFi hn
  go_enter Tryz.func55, Tryz.ntmps55
  go_upto_region 1 with (fail)
  generalize hW1 : w.alloc (.cells #[.int .i64 kd, strV tx, .int .i64 an, .slice ma mn mc] 81) = W1 at *
  generalize w.heap.size = ab at *
  clear hW1
  have hPk := Pick_any kd 9 W1 (by omega) (by omega)
  rw [show kd % ((9 : Nat) : Int) = m from HM.out] at hPk
  have HPK := Lib.hid hPk
  clear hPk
  go_wp2_with (fail)
  refine HPK.out.mono ?_
  rintro e W2 ⟨rfl, rfl⟩
  clear HPK
  rcases hmc with rfl | rfl | rfl | rfl | rfl | rfl | rfl | rfl | rfl
  case inl =>
    obtain ⟨J, hJ⟩ : ∃ J, jappend d nm n c tx = J := ⟨_, rfl⟩
    have hJ25 := jappend_codeA d nm n c tx
    have hJn := jappend_countA d nm n c tx
    rw [hJ] at hJ25 hJn
    have HJ := Lib.hid hJ
    have HA := Lib.hid fun W (hb : Below W1.heap.size W1 W) => (HS0.out.below hb).qApp tx (by omega) (by omega) (by have := HN0.out; omega) hnl hJ
    clear hJ HFI HS0
    go_upto_region 3 with (fail)
    refine wp_region_still_tail 6 (by kernel_rfl) (by kernel_rfl) ?_
    simp only [List.take_succ_cons, List.take_zero, List.drop_succ_cons, List.drop_zero]
    repeat still_step
    refine wpStill_nil ?_
    go_wp2_with (fail)
    refine (HA.out _ (Below.refl _ _).drew).mono ?_
    rintro e w2 ⟨rfl, h2⟩
    obtain ⟨c0, c1, c2, c3, c4, hwl⟩ := h2.leave.cells
    obtain ⟨y0, y1, y2, y3, hal⟩ := h2.acells
    have HB := Lib.hid fun W (hb : Below w2.heap.size w2 W) => (h2.below hb).jApp tx (by omega) (by omega) (by have := HN0.out; omega) HJ.out
    clear h2 HA
    go_upto_region 4 with (fail)
    refine wp_region_still_tail 6 (by kernel_rfl) (by kernel_rfl) ?_
    simp only [List.take_succ_cons, List.take_zero, List.drop_succ_cons, List.drop_zero]
    repeat still_step
    refine wpStill_nil ?_
    go_wp2_with (fail)
    refine (HB.out _ (Below.refl _ _).drew).mono ?_
    rintro e w3 ⟨rfl, h3⟩
    have HP := Lib.hid (Plain_same J.e w3 hJ25 (HG.out.below h3.py.bel))
    have H3 := Lib.hid h3
    clear h3 HB
    go_wp2_with (fail)
    refine HP.out.mono ?_
    rintro e w4 ⟨rfl, hb4⟩
    have h4 : S1 w0 w4 wb g r (N + 20) nm := ⟨J.d, jb, q, J.n, J.c, by have := HN0.out; omega, (H3.out.below hb4).leave.mono (by omega)⟩
    have H4 := Lib.hid h4
    clear h4 hb4 H3 HP
    go_wp2
    go_ret
    exact ⟨rfl, H4.out⟩
  case inr.inr.inl =>
    obtain ⟨J, hJ⟩ : ∃ J, jreset d nm n c = J := ⟨_, rfl⟩
    have hJ25 := jreset_codeA d nm n c
    have hJn := jreset_countA d nm n c
    rw [hJ] at hJ25 hJn
    have HJ := Lib.hid hJ
    have HA := Lib.hid (HS0.out.qRes (by omega) (by have := HN0.out; omega) hnl hJ)
    clear hJ HFI HS0
    go_wp2_with (fail)
    refine HA.out.mono ?_
    rintro e w2 ⟨rfl, h2⟩
    obtain ⟨c0, c1, c2, c3, c4, hwl⟩ := h2.leave.cells
    have HB := Lib.hid (h2.jRes (by omega) HJ.out)
    clear h2 HA
    go_wp2_with (fail)
    refine HB.out.mono ?_
    rintro e w3 ⟨rfl, h3⟩
    have HP := Lib.hid (Plain_same J.e w3 hJ25 (HG.out.below h3.py.bel))
    have H3 := Lib.hid h3
    clear h3 HB
    go_wp2_with (fail)
    refine HP.out.mono ?_
    rintro e w4 ⟨rfl, hb4⟩
    have h4 : S1 w0 w4 wb g r (N + 20) nm := ⟨J.d, jb, q, J.n, J.c, by have := HN0.out; omega, (H3.out.below hb4).leave.mono (by omega)⟩
    have H4 := Lib.hid h4
    clear h4 hb4 H3 HP
    go_wp2
    go_ret
    exact ⟨rfl, H4.out⟩
  case inr.inl =>
    have h4 : S1 w0 W1 wb g r (N + 20) nm := ⟨d, jb, q, n, c, by have := HN0.out; omega, HS0.out.leave.mono (by omega)⟩
    have H4 := Lib.hid h4
    clear h4 HS0 HFI
    go_wp2
    go_ret
    exact ⟨rfl, H4.out⟩
  case inr.inr.inr.inr.inr.inr.inl =>
    have HA := Lib.hid (open_any HS0.out.leave hN (by omega) HG.out)
    clear HS0 HFI
    go_wp2_with (fail)
    refine HA.out.mono ?_
    rintro e w2 ⟨rfl, d2, hop⟩
    have h4 : S1 w0 w2 wb g r (N + 20) nm := by
      rcases hop with h2 | ⟨jb2, q2, n2, h5, -, h6⟩
      · exact ⟨d2, jb, q, n, c, by have := HN0.out; omega, h2⟩
      · exact ⟨d2, jb2, q2, n2, false, by omega, h6⟩
    have H4 := Lib.hid h4
    clear h4 hop HA
    go_wp2
    go_ret
    exact ⟨rfl, H4.out⟩
  all_goals
    have HA := Lib.hid (HFI.out _ HS0.out.leave)
    clear HS0 HFI
    go_wp2_with (fail)
    refine HA.out.mono ?_
    rintro e w2 ⟨rfl, h2⟩
    have h4 : S1 w0 w2 wb g r (N + 20) nm := ⟨_, jb, q, n, c, by have := HN0.out; omega, h2.mono (by omega)⟩
    have H4 := Lib.hid h4
    clear h4 h2 HA
    go_wp2
    go_ret
    exact ⟨rfl, H4.out⟩
end Go.Proofs.YtfgpigblnkanpaaGreatDoor
