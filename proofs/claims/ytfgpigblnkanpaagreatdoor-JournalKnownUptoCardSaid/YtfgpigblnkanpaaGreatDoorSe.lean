/- A journal's play: both sides are opened. -/
import Derived.Test.YtfgpigblnkanpaaGreatDoorHU
import Derived.Test.YtfgpigblnkanpaaGreatDoorKe
import Derived.Test.YtfgpigblnkanpaaGreatDoorGF
import Derived.Test.YtfgpigblnkanpaaGreatDoorGP
import Derived.Deep.DeepCutAuto
import Derived.Deep.RegionWith
namespace Go.Proofs.YtfgpigblnkanpaaGreatDoor
open Go.RowKit Go.Maps Go.Shelf
set_option linter.unusedVariables false
set_option linter.unusedSimpArgs false

section
variable {w0 w w' : World} {wb g r : Nat} {M : List Nat} {jv qv : Value} {jo qo : Jo} {d e : Dk} {N : Nat} {nm : Nm}
theorem Mine.few {K A : List Nat} (h : Mine w0 w K A g d N) (hl : nm.length ≤ 199) : (jstart d nm).l.length ≤ 268435456 := jstart_few h.hd.bd h.hd.ok nm hl
theorem Py.few (h : Py w0 w M jo g d qo r e N nm) (hl : nm.length ≤ 199) : (jstart d nm).l.length ≤ 268435456 := by
  obtain ⟨Ap, Aq, h1, h2, h3, h4⟩ := h
  exact h1.mine.few hl
theorem Fw.jOpenErr (h : Fw w0 w wb g r jv qv jo qo d e N nm) (hl : 1 ≤ nm.length ∧ nm.length ≤ 199) (hN : N + 10 ≤ 1073741824) (he : (jstart d nm).e ≠ 0) :
    Calls Tryz.prog 50 #[.pointer (some ⟨g, 0, none⟩), strV nm] w fun x w' => x = .returned (.tuple #[.pointer none, .slice none 0 0, errV (jstart d nm).e]) ∧ Fw w0 w' wb g r jv qv jo qo (jstart d nm).d e (N + 10) nm :=
  (h.py.callP (E := fun x => x = .returned (.tuple #[.pointer none, .slice none 0 0, errV (jstart d nm).e])) (Nat.le_add_right _ _) fun K A hK hA => (jOpen_own hA hl (by omega) hA.hd.bd.small rfl (by have := hA.few hl.2; omega)).mono fun x w' hp => by
    rcases hp with ⟨_, h1, h2⟩ | ⟨h0, _⟩
    · exact ⟨h1, h2⟩
    · exact absurd h0 he).mono fun x w' hp => ⟨hp.1, h.to hp.2⟩
theorem Fw.qOpenErr (h : Fw w0 w wb g r jv qv jo qo d e N nm) (hl : 1 ≤ nm.length ∧ nm.length ≤ 199) (hN : N + 10 ≤ 1073741824) (he : (jstart e nm).e ≠ 0) :
    Calls Tryz.prog 109 #[.pointer (some ⟨r, 0, none⟩), strV nm] w fun x w' => x = .returned (.tuple #[.pointer none, .slice none 0 0, .int .i64 ((jstart e nm).e : Nat)]) ∧ Fw w0 w' wb g r jv qv jo qo d (jstart e nm).d (N + 10) nm :=
  (h.py.callQ (E := fun x => x = .returned (.tuple #[.pointer none, .slice none 0 0, .int .i64 ((jstart e nm).e : Nat)])) (Nat.le_add_right _ _) fun A hA hb => (qOpen_any hA hN nm hl).mono fun x w' hp => by
    rcases hp with ⟨_, h1, h2⟩ | ⟨h0, _⟩
    · exact ⟨h1, h2⟩
    · exact absurd h0 he).mono fun x w' hp => ⟨hp.1, h.to hp.2⟩
theorem Fw.jOpenOk (h : Fw w0 w wb g r jv qv jo qo d e N nm) (hl : 1 ≤ nm.length ∧ nm.length ≤ 199) (hN : N + 10 ≤ 1073741824) (he : (jstart d nm).e = 0) :
    Calls Tryz.prog 50 #[.pointer (some ⟨g, 0, none⟩), strV nm] w fun x w' => ∃ jb v, x = .returned (.tuple #[.pointer (some ⟨jb, 0, none⟩), v, .nilIface]) ∧ Py w0 w' (v.ownBlock.toList ++ [wb]) (some (jb, (jstart d nm).l.length, false)) g (jstart d nm).d qo r e (N + 10) nm ∧
      Blk w' wb [strV nm, .pointer (some ⟨g, 0, none⟩), jv, .pointer (some ⟨r, 0, none⟩), qv] 91 ∧ w'.ownsRow w0.heap.size 9 1 v (jstart d nm).l.length ((jstart d nm).l.map strV) ∧ ∀ k, v.ownBlock = some k → k ≠ wb := by
  obtain ⟨Ap, Aq, h1, h2, h3, h4⟩ := h.py
  refine (jOpen_own h1.mine hl (by omega) h1.mine.hd.bd.small rfl (by have := h1.mine.few hl.2; omega)).mono fun x w' hp => ?_
  rcases hp with ⟨h0, _⟩ | ⟨h0, jb, v, A', hx, hJ, hk, hn, hjb, hcap⟩
  · exact absurd he h0
  · have hkk : ∀ k ∈ [wb] ++ Aq, w'.heap[k]? = w.heap[k]? := fun k hk2 => hk k (List.mem_append_right _ hk2)
    refine ⟨jb, v, hx, ⟨A', Aq, ?_, ?_, h3, fun k hk2 => ?_⟩, h.bx.same (hkk wb (by simp)), hn.1, fun k hk2 e => hn.2 k hk2 (by simp [e])⟩
    · exact Jl.lessK hJ (fun k hk2 => by simp only [List.mem_append] at hk2 ⊢; rcases hk2 with (h5 | h5) | h5 <;> simp [h5])
    · exact (h2.same fun k hk2 => hkk k (by simp [hk2])).mono (Nat.le_add_right _ _)
    · rcases List.mem_append.1 hk2 with h5 | h5
      · have h5' : v.ownBlock = some k := by simpa using h5
        exact ⟨fun hm => hn.2 k h5' (by simp [hm]), (hn.1.lt k h5').1⟩
      · exact h4 k h5
theorem Py.qOpenOk (h : Py w0 w M jo g d qo r e N nm) (hl : 1 ≤ nm.length ∧ nm.length ≤ 199) (hN : N + 10 ≤ 1073741824) (he : (jstart e nm).e = 0) :
    Calls Tryz.prog 109 #[.pointer (some ⟨r, 0, none⟩), strV nm] w fun x w' => ∃ q v, x = .returned (.tuple #[.pointer (some ⟨q, 0, none⟩), v, .int .i64 0]) ∧ PyTo w0 w w' M jo g d (some (q, (jstart e nm).l.length, false)) r (jstart e nm).d (N + 10) nm ∧ w'.ownsRow w.heap.size 9 1 v (jstart e nm).l.length ((jstart e nm).l.map strV) := by
  obtain ⟨Ap, Aq, h1, h2, h3, h4⟩ := h
  obtain ⟨Ar, hr, hra⟩ := h2.rd
  refine (qOpen_any hr hN nm hl).mono fun x w' hp => ?_
  rcases hp with ⟨h0, _⟩ | ⟨h0, q, v, A', hx, hrow, hblk, hq, hR, hs, hqA, hv⟩
  · exact absurd he h0
  · have hql := hblk.lt
    have hlt : ∀ k ∈ q :: A', k < w'.heap.size := fun k hk => by
      rcases List.mem_cons.1 hk with rfl | hk
      · exact hql
      · exact hR.lt k hk
    have hs2 : Stp Aq (q :: A') w w' := ⟨hs.os, hs.tape, hs.output, hs.size, fun k hk hm => hs.block k hk (fun h5 => hm (hra k h5)), fun k hk => by
      rcases List.mem_cons.1 hk with rfl | hk
      · exact Or.inr hq
      · exact (hs.inn k hk).imp (hra k) id⟩
    obtain ⟨a1, a2, a3, a4⟩ := hs2.py h1 h3 h4 hlt
    exact ⟨q, v, hx, ⟨⟨Ap, q :: A', a1.mono (Nat.le_add_right _ _), ⟨A', hR, hblk, hqA, fun k hk => List.mem_cons_of_mem _ hk, List.mem_cons_self, hlt⟩, a2, a3⟩, a4⟩, hrow⟩
end
theorem jrun_code : ∀ (os : List Od) (d : Dk), (jrun d os).2.1 ≤ 25
  | [], d => by simp [jrun]
  | o :: os, d => by
    have h1 := ddo_codeK d o
    have h2 := jrun_code os (ddo d o).1
    simp only [jrun]
    split
    · exact h1
    · exact h2
theorem dread_code (d : Dk) (n : Nm) : (dread d n).2 ≤ 25 := by
  unfold dread
  split
  · simp
  · split <;> simp
theorem jcut_code (d : Dk) (nm : Nm) (x : List UInt8) : (jcut d nm x).2 ≤ 25 := by
  have h := jrun_code (jcutL nm x) d
  rw [jcut_run]
  split
  · first | exact h | (simp only; omega)
  · exact h
theorem jrest_code (d : Dk) (nm : Nm) (l : List Nm) : (jrest d nm l).e ≤ 25 := by
  rw [(jrest_run d nm l).2.1]
  exact jrun_code _ _
theorem jfill_code (d : Dk) (nm : Nm) : (jfill d nm).e ≤ 25 := by
  unfold jfill
  split
  · split
    · exact ddo_codeK _ _
    · exact jrest_code _ _ _
  · split
    · split
      · split
        · exact jcut_code _ _ _
        · exact jrest_code _ _ _
      · exact jrest_code _ _ _
    · exact dread_code _ _
theorem jstart_code (d : Dk) (nm : Nm) : (jstart d nm).e ≤ 25 := by
  unfold jstart
  split
  · split
    · exact ddo_codeK _ _
    · split
      · exact ddo_codeK _ _
      · exact jfill_code _ _
  · exact jfill_code _ _
/-- Behind open. -/
def OpTo (w0 w' : World) (wb g r : Nat) (jv qv : Value) (jo qo : Jo) (N : Nat) (nm : Nm) : Prop := ∃ d,
  Fw w0 w' wb g r jv qv jo qo d d N nm ∨ ∃ jb q n, n ≤ 268435456 ∧ (1 ≤ nm.length ∧ nm.length ≤ 199) ∧ Fw w0 w' wb g r (.pointer (some ⟨jb, 0, none⟩)) (.pointer (some ⟨q, 0, none⟩)) (some (jb, n, false)) (some (q, n, false)) d d N nm
/-- Neither side is opened. -/
theorem Fw.openNo {w0 w : World} {wb g r : Nat} {jv qv : Value} {jo qo : Jo} {d : Dk} {N : Nat} {nm : Nm} (h : Fw w0 w wb g r jv qv jo qo d d N nm) (hN : N + 20 ≤ 1073741824) (hnl : nm.length ≤ 4294967296) (hno : ¬ (1 ≤ nm.length ∧ nm.length ≤ 199) ∨ (jstart d nm).e ≠ 0) :
    ∃ c d1, c ≠ 0 ∧ c ≤ 25 ∧ (∀ W, Below w.heap.size w W → Calls Tryz.prog 50 #[.pointer (some ⟨g, 0, none⟩), strV nm] W fun x w' => x = .returned (.tuple #[.pointer none, .slice none 0 0, errV c]) ∧ Fw w0 w' wb g r jv qv jo qo d1 d (N + 10) nm) ∧
      (∀ W, Fw w0 W wb g r jv qv jo qo d1 d (N + 10) nm → Calls Tryz.prog 109 #[.pointer (some ⟨r, 0, none⟩), strV nm] W fun x w' => x = .returned (.tuple #[.pointer none, .slice none 0 0, .int .i64 (c : Nat)]) ∧ Fw w0 w' wb g r jv qv jo qo d1 d1 (N + 20) nm) := by
  by_cases hl : 1 ≤ nm.length ∧ nm.length ≤ 199
  · have he : (jstart d nm).e ≠ 0 := hno.resolve_left (fun h => h hl)
    exact ⟨_, _, he, jstart_code d nm, fun W hb => (h.below hb).jOpenErr hl (by omega) he, fun W hW => hW.qOpenErr hl (by omega) he⟩
  · have hl2 : nm.length < 1 ∨ 199 < nm.length := by omega
    refine ⟨21, d, by omega, by omega, fun W hb => (jOpen_bad hl2 (by omega)).mono fun x w' hp => ⟨hp.1, ?_⟩, fun W hW => (qOpen_bad hl2 (by omega)).mono fun x w' hp => ⟨hp.1, ?_⟩⟩
    · rw [← hp.2]; exact (h.below hb).mono (by omega)
    · rw [← hp.2]; exact hW.mono (by omega)
/-- In the loop that writes over the records. -/
structure OwIn (w0 wr : World) (wb g r jb q n b cap : Nat) (jv qv : Value) (d : Dk) (N : Nat) (nm : Nm) (R : List Nm) : Prop where
  py : Py w0 wr [b, wb] (some (jb, n, false)) g d (some (q, n, false)) r d N nm
  bx : Blk wr wb [strV nm, .pointer (some ⟨g, 0, none⟩), jv, .pointer (some ⟨r, 0, none⟩), qv] 91
  row : wr.ownsRow w0.heap.size 9 1 (.slice (some ⟨b, 0, none⟩) n cap) n (R.map strV)
  ne : b ≠ wb
theorem OwIn.put {w0 wr : World} {wb g r jb q n b cap : Nat} {jv qv : Value} {d : Dk} {N : Nat} {nm : Nm} {R : List Nm} (h : OwIn w0 wr wb g r jb q n b cap jv qv d N nm R) (k : Nat) (x : Nm) : OwIn w0 (wr.setCell ⟨b, k, none⟩ (strV x)) wb g r jb q n b cap jv qv d N nm (R.set k x) :=
  ⟨h.py.set ⟨b, k, none⟩ (by simp) _, h.bx.same (heap_setCell_other _ _ _ _ (Ne.symm h.ne)), by
    have := (h.row.stored k (strV x)).1
    rw [List.map_set]
    exact this, h.ne⟩
theorem OwIn.cell {w0 wr : World} {wb g r jb q n b cap : Nat} {jv qv : Value} {d : Dk} {N : Nat} {nm : Nm} {R : List Nm} (h : OwIn w0 wr wb g r jb q n b cap jv qv d N nm R) {k : Nat} (hk : k < n) : (∃ x, wr.cell? ⟨b, k, none⟩ = some (strV x)) ∧ wr.frozen? ⟨b, k, none⟩ = false := by
  have h1 := h.row.1
  have h2 := h.row.cellAt k (by omega)
  simp only [List.length_map] at h1
  rw [List.getElem?_map, List.getElem?_eq_getElem (by omega)] at h2
  exact ⟨⟨_, h2⟩, h.row.frozenAt k⟩
/-- Both journals are put into the play's struct. -/
theorem Py.opened {w0 w : World} {wb g r jb q n : Nat} {jv qv : Value} {d : Dk} {N : Nat} {nm : Nm} (h : Py w0 w [wb] (some (jb, n, false)) g d (some (q, n, false)) r d N nm) (hx : Blk w wb [strV nm, .pointer (some ⟨g, 0, none⟩), jv, .pointer (some ⟨r, 0, none⟩), qv] 91) :
    Fw w0 ((w.setCell ⟨wb, 2, none⟩ (.pointer (some ⟨jb, 0, none⟩))).setCell ⟨wb, 4, none⟩ (.pointer (some ⟨q, 0, none⟩))) wb g r (.pointer (some ⟨jb, 0, none⟩)) (.pointer (some ⟨q, 0, none⟩)) (some (jb, n, false)) (some (q, n, false)) d d N nm :=
  ⟨(h.set ⟨wb, 2, none⟩ (by simp) _).set ⟨wb, 4, none⟩ (by simp) _, (hx.set 2 _).set 4 _⟩
set_option maxHeartbeats 8000000 in
set_option maxRecDepth 100000 in
theorem open_any {w0 w : World} {wb g r : Nat} {jv qv : Value} {jo qo : Jo} {d : Dk} {N : Nat} {nm : Nm} (h : Fw w0 w wb g r jv qv jo qo d d N nm) (hN : N + 20 ≤ 1073741824) (hnl : nm.length ≤ 4294967296) (hg : ErrorLaid w0) :
    Calls Tryz.prog 53 #[.pointer (some ⟨wb, 0, none⟩)] w fun e w' => e = .returned (.bool true) ∧ OpTo w0 w' wb g r jv qv jo qo (N + 20) nm := by
  obtain ⟨c0, c1, c2, c3, c4, hwl⟩ := h.cells
  have HG := Lib.hid hg
  by_cases hno : ¬ (1 ≤ nm.length ∧ nm.length ≤ 199) ∨ (jstart d nm).e ≠ 0
  · obtain ⟨c, d1, hc0, hc25, hJ, hQ⟩ := h.openNo hN hnl hno
    have HJ := Lib.hid hJ
    have HQ := Lib.hid hQ
    have q0 : ((c : Int) == 0) = false := by simp; omega
    have q1 : ((c : Int) != 0) = true := by simp; omega
    clear h hno hJ hQ hg
    go_enter Tryz.func53, Tryz.ntmps53
    go_upto_region 1 with (fail)
    go_cut [3, 4, 5] (fun s3 s4 s5 wx => s3 = .pointer none ∧ s4 = .slice none 0 0 ∧ s5 = errV c ∧ Hid (Fw w0 wx wb g r jv qv jo qo d1 d (N + 10) nm))
    case first =>
      go_region_with (go_at_call 50; refine (HJ.out _ (Below.refl _ _).drew).mono ?_; rintro e w1 ⟨rfl, h1⟩; have H1 := Lib.hid h1; clear h1)
      all_goals
        go_wp2_with (fail)
        go_meet
        exact ⟨rfl, rfl, rfl, H1.out⟩
    obtain ⟨rfl, rfl, rfl, hc⟩ := hcut
    clear c0 c1 c2 c3 c4
    obtain ⟨c0, c1, c2, c3, c4, hwl⟩ := hc.out.cells
    have H1 := Lib.hid hc.out
    clear hc HJ
    go_upto_region 2 with (fail)
    go_cut [6, 7, 8] (fun s6 s7 s8 wx => s6 = .pointer none ∧ s7 = .slice none 0 0 ∧ s8 = .int .i64 (c : Nat) ∧ Hid (Fw w0 wx wb g r jv qv jo qo d1 d1 (N + 20) nm))
    case first =>
      go_region_with (go_at_call 109; refine (HQ.out _ (H1.out.below (Below.refl _ _).drew)).mono ?_; rintro e w2 ⟨rfl, h2⟩; have H2 := Lib.hid h2; clear h2)
      all_goals
        go_wp2_with (fail)
        go_meet
        exact ⟨rfl, rfl, rfl, H2.out⟩
    obtain ⟨rfl, rfl, rfl, hc⟩ := hcut
    have h2 := hc.out
    clear hc
    generalize wc = w2 at *
    have HP := Lib.hid (Plain_same c w2 hc25 (HG.out.below h2.py.bel))
    have H2 := Lib.hid h2
    clear h2 HQ H1
    go_wp2_with (fail)
    refine HP.out.mono ?_
    rintro e w3 ⟨rfl, hb3⟩
    have H3 := Lib.hid (H2.out.below hb3)
    clear hb3 H2 HP
    go_wp2_with (fail)
    go_loopw [9] (fun iv wr => iv = .int .i64 0 ∧ wr = w3) (fun _ _ => 0)
    case atStart => exact ⟨rfl, rfl⟩
    case round =>
      obtain ⟨rfl, rfl⟩ := hrel
      have hfin : OpTo w0 wr wb g r jv qv jo qo (N + 20) nm := ⟨d1, Or.inl H3.out⟩
      have HF := Lib.hid hfin
      clear hfin H3
      go_wp2
      go_ret
      exact ⟨rfl, HF.out⟩
  · have hl : 1 ≤ nm.length ∧ nm.length ≤ 199 := Classical.not_not.1 (fun h => hno (Or.inl h))
    have he : (jstart d nm).e = 0 := Classical.not_not.1 (fun h => hno (Or.inr h))
    have hfew := h.py.few hl.2
    have HJ := Lib.hid fun W (hb : Below w.heap.size w W) => (h.below hb).jOpenOk hl (by omega) he
    have HE := Lib.hid he
    have HL := Lib.hid hl
    clear h hno hg he hl
    go_enter Tryz.func53, Tryz.ntmps53
    go_upto_region 1 with (fail)
    go_cut [3, 4, 5] (fun s3 s4 s5 wx => ∃ jb v, s3 = .pointer (some ⟨jb, 0, none⟩) ∧ s4 = v ∧ s5 = .nilIface ∧ Hid (Py w0 wx (v.ownBlock.toList ++ [wb]) (some (jb, (jstart d nm).l.length, false)) g (jstart d nm).d qo r d (N + 10) nm ∧
      Blk wx wb [strV nm, .pointer (some ⟨g, 0, none⟩), jv, .pointer (some ⟨r, 0, none⟩), qv] 91 ∧ wx.ownsRow w0.heap.size 9 1 v (jstart d nm).l.length ((jstart d nm).l.map strV) ∧ ∀ k, v.ownBlock = some k → k ≠ wb))
    case first =>
      go_region_with (go_at_call 50; refine (HJ.out _ (Below.refl _ _).drew).mono ?_; rintro e w1 ⟨jb, v, rfl, h1⟩; have H1 := Lib.hid h1; clear h1)
      all_goals
        go_wp2_with (fail)
        go_meet
        exact ⟨jb, v, rfl, rfl, rfl, H1.out⟩
    obtain ⟨jb, v, rfl, rfl, rfl, hc⟩ := hcut
    obtain ⟨hp1, hx1, hr1, hne1⟩ := hc.out
    generalize wc = w1 at *
    clear HJ c0 c1 c2 c3 c4 hc
    have c0 := hx1.cell 0
    have c3 := hx1.cell 3
    simp only [List.getElem?_cons_zero, List.getElem?_cons_succ] at c0 c3
    obtain ⟨va, vc, hve⟩ := row_shapeK hr1
    subst hve
    have HQ := Lib.hid fun W (hb : Below w1.heap.size w1 W) => (hp1.below hb).qOpenOk HL.out (by omega) HE.out
    have HSZ : Hid (w0.heap.size ≤ w1.heap.size) := hp1.bel.size
    have HR1 := Lib.hid hr1
    have HX1 := Lib.hid hx1
    have HNE := Lib.hid hne1
    have HLT : Hid (∀ k ∈ (Value.slice va (jstart d nm).l.length vc).ownBlock.toList ++ [wb], k < w1.heap.size) := fun k hk => (hp1.lt k hk).1
    clear hp1 hx1 hr1 hne1
    generalize (jstart d nm).l = L at *
    generalize (jstart d nm).d = d1 at *
    go_upto_region 2 with (fail)
    go_cut [6, 7, 8] (fun s6 s7 s8 wx => ∃ q u, s6 = .pointer (some ⟨q, 0, none⟩) ∧ s7 = u ∧ s8 = .int .i64 0 ∧ Hid (PyTo w0 w1 wx ((Value.slice va L.length vc).ownBlock.toList ++ [wb]) (some (jb, L.length, false)) g d1 (some (q, L.length, false)) r d1 (N + 20) nm ∧ wx.ownsRow w0.heap.size 9 1 u L.length (L.map strV)))
    case first =>
      go_region_with (go_at_call 109; refine (HQ.out _ (Below.refl _ _).drew).mono ?_; rintro e w2 ⟨q, u, rfl, h2, hr2⟩; have H2 : Hid (PyTo w0 w1 w2 ((Value.slice va L.length vc).ownBlock.toList ++ [wb]) (some (jb, L.length, false)) g d1 (some (q, L.length, false)) r d1 (N + 20) nm ∧ w2.ownsRow w0.heap.size 9 1 u L.length (L.map strV)) := ⟨h2, row_lessK hr2 HSZ.out⟩; clear h2 hr2)
      all_goals
        go_wp2_with (fail)
        go_meet
        exact ⟨q, u, rfl, rfl, rfl, H2.out⟩
    obtain ⟨q, u, rfl, rfl, rfl, hc⟩ := hcut
    obtain ⟨hp2, hr2⟩ := hc.out
    generalize wc = w2 at *
    clear hc
    have hx2 := HX1.out.same (w' := w2) (hp2.2 wb (by simp))
    have hr12 := ownsRow_same HR1.out (w' := w2) (fun k hk => hp2.2 k (List.mem_append_left _ (by simp [hk])))
    have hg2 := HG.out.below hp2.1.bel
    have hP : Calls Tryz.prog 28 #[.nilIface, .int .i64 0] w2 fun e w' => e = .returned (.bool true) ∧ Below w2.heap.size w2 w' := by
      have := Plain_same 0 w2 (by omega) hg2
      rw [errV_none] at this
      exact this
    obtain ⟨ua, uc, hue⟩ := row_shapeK hr2
    subst hue
    have HPY := Lib.hid hp2.1
    have HX2 := Lib.hid hx2
    have HR12 := Lib.hid hr12
    have HR2 := Lib.hid hr2
    have HP := Lib.hid hP
    clear hp2 hx2 hr12 hr2 hP hg2 HQ HX1 HR1
    go_wp2_with (fail)
    refine HP.out.mono ?_
    rintro e w3 ⟨rfl, hb3⟩
    have s1 := TextsAt.sh (RowAt.of_row (row_below HR12.out hb3))
    have s2 := TextsAt.sh (RowAt.of_row (row_below HR2.out hb3))
    have hST : Calls Tryz.prog 69 #[.slice va L.length vc, .slice ua L.length uc] w3 fun e w' => e = .returned (.bool true) ∧ Below w3.heap.size w3 w' := (SameTexts_sh w3 _ _ L L s1 s2 (by omega) (by omega)).mono fun e w' ⟨he, q, hq⟩ => (⟨by rw [he]; simp, hq ▸ below_drewN (Below.refl _ _) q⟩ : e = Ending.returned (.bool true) ∧ Below w3.heap.size w3 w')
    have HST := Lib.hid hST
    have HB3 := Lib.hid hb3
    clear s1 s2 hST hb3 HP HR2
    go_wp2_with (fail)
    refine HST.out.mono ?_
    rintro e w4 ⟨rfl, hb4⟩
    have hb24 := HB3.out.trans (hb4.mono HB3.out.size)
    have hpy := HPY.out.below hb24
    have hx4 := HX2.out.below hb24 HX2.out.lt
    have hr4 := row_below HR12.out hb24
    have HPY4 := Lib.hid hpy
    have HX4 := Lib.hid hx4
    have HR4 := Lib.hid hr4
    clear hb24 hpy hx4 hr4 hb4 HPY HX2 HR12 HB3 HST
    go_wp2_with (fail)
    by_cases hL0 : L.length = 0
    · have hfw := Py.opened (HPY4.out.less (M' := [wb]) (fun k hk => by simp at hk; simp [hk])) HX4.out
      have hfin : OpTo w0 _ wb g r jv qv jo qo (N + 20) nm := ⟨d1, Or.inr ⟨jb, q, L.length, hfew, HL.out, hfw⟩⟩
      have f2 := HX4.out.free 2
      have f4 := HX4.out.free 4
      have c2 := HX4.out.cell 2
      have c4 := HX4.out.cell 4
      simp only [List.getElem?_cons_zero, List.getElem?_cons_succ] at c2 c4
      have hlt := HX4.out.lt
      have HF := Lib.hid hfin
      clear hfw hfin HPY4 HX4 HR4 c0 c3
      have ik : ¬ (0 : Int) < (L.length : Int) := by omega
      go_loopw [9] (fun iv wr => iv = .int .i64 0 ∧ wr = w4) (fun _ _ => 0)
      case atStart => exact ⟨rfl, rfl⟩
      case round =>
        obtain ⟨rfl, rfl⟩ := hrel
        go_wp2
        go_ret
        exact ⟨rfl, HF.out⟩
    · obtain ⟨b, cap, hvb, -, -⟩ := HR4.out.form (by omega)
      rw [hvb] at HR4 HPY4 HNE
      have how : OwIn w0 w4 wb g r jb q L.length b cap jv qv d1 (N + 20) nm L := ⟨HPY4.out, HX4.out, HR4.out, HNE.out b rfl⟩
      have HOW := Lib.hid how
      simp only [Value.slice.injEq, true_and] at hvb
      obtain ⟨rfl, rfl⟩ := hvb
      clear how HPY4 HX4 HR4 HNE HLT c0 c3 hL0
      go_loopw [9] (fun iv wr => ∃ k R, iv = .int .i64 (k : Nat) ∧ k ≤ L.length ∧ Hid (OwIn w0 wr wb g r jb q L.length b vc jv qv d1 (N + 20) nm R)) (fun iv _ => L.length - (intOf iv).toNat)
      case atStart => exact ⟨0, L, rfl, Nat.zero_le _, HOW.out⟩
      case round =>
        clear HOW
        obtain ⟨k, R, rfl, hk, how⟩ := hrel
        by_cases hlt : k < L.length
        · obtain ⟨⟨x, cx⟩, fx⟩ := how.out.cell hlt
          have hn := how.out.put k [119, 114, 105, 116, 116, 101, 110, 32, 111, 118, 101, 114]
          have HN := Lib.hid hn
          have ik0 : (0 : Int) ≤ (k : Int) := by omega
          have ik1 : (k : Int) < (L.length : Int) := by omega
          clear hn how
          go_wp2
          go_roundw
          case rel => exact ⟨k + 1, _, by go_num, by omega, HN.out⟩
          case measure => simp [intOf]; omega
        · have hfw := Py.opened (how.out.py.less (M' := [wb]) (fun k hk => by simp at hk; simp [hk])) how.out.bx
          have hfin : OpTo w0 _ wb g r jv qv jo qo (N + 20) nm := ⟨d1, Or.inr ⟨jb, q, L.length, hfew, HL.out, hfw⟩⟩
          have f2 := how.out.bx.free 2
          have f4 := how.out.bx.free 4
          have c2 := how.out.bx.cell 2
          have c4 := how.out.bx.cell 4
          simp only [List.getElem?_cons_zero, List.getElem?_cons_succ] at c2 c4
          have hlw := how.out.bx.lt
          have HF := Lib.hid hfin
          have ik : ¬ (k : Int) < (L.length : Int) := by omega
          clear hfw hfin how
          go_wp2
          go_ret
          exact ⟨rfl, HF.out⟩
end Go.Proofs.YtfgpigblnkanpaaGreatDoor
