/- The document's journal: operations that are written out, and run; the walk of right. The document's journal: the walk of right. -/
import Derived.Test.YtfgpigblnkanpaaGreatDoorHP
import Derived.Test.YtfgpigblnkanpaaGreatDoorHR
import Derived.Test.YtfgpigblnkanpaaGreatDoorGI
import Derived.Test.YtfgpigblnkanpaaGreatDoorKe
import Derived.Deep.DeepCutAuto
namespace Go.Proofs.YtfgpigblnkanpaaGreatDoor
open Go.RowKit Go.Maps Go.Shelf
set_option linter.unusedVariables false
set_option linter.unusedSimpArgs false

def qcells (o : Od) : List Value := [.int .i64 (odKind o), strV (odOld o), strV (odNmQ o), strV (odText o)]
theorem qcells_get : ∀ (os : List Od) (i : Nat) (o : Od), os[i]? = some o → ∀ j, j < 4 → (os.flatMap qcells)[i * 4 + j]? = (qcells o)[j]?
  | x :: l, 0, o, h, j, hj => by
    simp at h
    subst h
    rw [List.flatMap_cons, Nat.zero_mul, Nat.zero_add, List.getElem?_append_left (by simpa [qcells] using hj)]
  | x :: l, i + 1, o, h, j, hj => by
    rw [List.flatMap_cons, List.getElem?_append_right (by simp [qcells]; omega)]
    have e : (i + 1) * 4 + j - (qcells x).length = i * 4 + j := by simp [qcells]; omega
    rw [e]
    exact qcells_get l i o (by simpa using h) j hj
theorem StepsQ.new (w : World) (os : List Od) : StepsQ (w.alloc (.cells (os.flatMap qcells).toArray 190)) w.heap.size os := fun i o ho => by
  have hx := Blk.new w (os.flatMap qcells) 190
  have hg := qcells_get os i o ho
  have h0 := hx.cell (i * 4 + 0)
  have h1 := hx.cell (i * 4 + 1)
  have h2 := hx.cell (i * 4 + 2)
  have h3 := hx.cell (i * 4 + 3)
  rw [hg 0 (by omega)] at h0
  rw [hg 1 (by omega)] at h1
  rw [hg 2 (by omega)] at h2
  rw [hg 3 (by omega)] at h3
  exact ⟨h0, h1, h2, h3⟩
theorem qrun_lit {w : World} {A : List Nat} {g : Nat} {d : Dk} {N : Nat} (h : Rd2 w A g d N) (os : List Od) (hN : N + os.length ≤ 1073741824) (hs : ∀ o ∈ os, odSmall o) (ht : ∀ o ∈ os, (odText o).length ≤ 140737488355328) :
    Calls Tryz.prog 137 #[.pointer (some ⟨g, 0, none⟩), .slice (some ⟨w.heap.size, 0, none⟩) os.length os.length] (w.alloc (.cells (os.flatMap qcells).toArray 190)) fun e w' => e = .returned (.tuple #[.int .i64 (jrun d os).2.1, .int .i64 (jrun d os).2.2]) ∧ Rd2To g (jrun d os).1 (N + os.length) A w w' := by
  have hb : Below w.heap.size w (w.alloc (.cells (os.flatMap qcells).toArray 190)) := (Below.refl _ w).alloc (Nat.le_refl _) _
  refine (qrun_any (h.below hb) os w.heap.size os.length (StepsQ.new w os) (fun hm => by have := h.lt _ hm; omega) (by simp) hN hs ht).mono ?_
  rintro e w' ⟨he, A', h1, h2⟩
  exact ⟨he, A', h1, (Stp.of_below (A := A) (B := A) hb fun k hk => Or.inl hk).trans h2⟩
end Go.Proofs.YtfgpigblnkanpaaGreatDoor

namespace Go.Proofs.YtfgpigblnkanpaaGreatDoor
open Go.RowKit Go.Maps Go.Shelf
set_option linter.unusedVariables false
set_option linter.unusedSimpArgs false

theorem Rd2To.then {u w w' : World} {A : List Nat} {g : Nat} {d d' : Dk} {N N' : Nat} (h : Rd2To g d N A u w) (h2 : ∀ B, Rd2 w B g d N → Rd2To g d' N' B w w') : Rd2To g d' N' A u w' := by
  obtain ⟨B, h3, h4⟩ := h
  obtain ⟨C, h5, h6⟩ := h2 B h3
  exact ⟨C, h5, h4.trans h6⟩
/-- Behind right. -/
def QrPost (w : World) (A : List Nat) (g : Nat) (N : Nat) (q : Jb) (e : Ending) (w' : World) : Prop :=
  ∃ v, e = .returned (.tuple #[v, .int .i64 (q.e : Nat)]) ∧ w'.ownsRow w.heap.size 9 1 v q.l.length (q.l.map strV) ∧ ∃ A', Rd2 w' A' g q.d (N + 8) ∧ Stp A A' w w' ∧ ∀ k, v.ownBlock = some k → k ∉ A'
theorem QrPost.none {w w' : World} {A A' : List Nat} {g : Nat} {N M : Nat} {d : Dk} {n : Nat} (h : Rd2 w' A' g d M) (hm : M ≤ N + 8) (hs : Stp A A' w w') : QrPost w A g N ⟨d, [], n⟩ (.returned (.tuple #[.slice none 0 0, .int .i64 n])) w' :=
  ⟨_, rfl, World.ownsRow_nil _ _ _ _, A', h.mono hm, hs, fun k hk => by simp [Value.ownBlock] at hk⟩
theorem jrun_one (d : Dk) (o : Od) : (jrun d [o]).1 = (ddo d o).1 := by
  simp only [jrun]
  split <;> rfl
/-- Behind the hand. -/
def QrMid (w wx : World) (A : List Nat) (g : Nat) (d : Dk) (N : Nat) (nm : Nm) : Prop := ∃ d1 A1, jright d nm = jr1 d1 nm ∧ Rd2 wx A1 g d1 (N + 2) ∧ Stp A A1 w wx
set_option maxHeartbeats 8000000 in
set_option maxRecDepth 100000 in
theorem qright_any {w : World} {A : List Nat} {g : Nat} {d : Dk} {N : Nat} (h : Rd2 w A g d N) (hN : N + 8 ≤ 1073741824) (nm : Nm) (hn : nm.length ≤ 199) :
    Calls Tryz.prog 136 #[.pointer (some ⟨g, 0, none⟩), strV nm, strV (jhandN nm)] w (QrPost w A g N (jright d nm)) := by
  have hhl : (jhandN nm).length ≤ 200 := by simp [jhandN]; omega
  have HR := Lib.hid (rRead_rd h (by omega) (jhandN nm))
  have H := Lib.hid h
  clear h
  go_enter Tryz.func136, Tryz.ntmps136
  go_wp2_with (fail)
  refine HR.out.mono ?_
  rintro e w1 ⟨rfl, hb1⟩
  have hs1 : Stp A A w w1 := Stp.of_below hb1 fun k hk => Or.inl hk
  have h1 := H.out.below hb1
  go_upto_if 21 with (fail)
  go_cut [0] (fun s0 wx => s0 = .pointer (some ⟨g, 0, none⟩) ∧ Hid (QrMid w wx A g d N nm))
  case first =>
    by_cases hd0 : (dread d (jhandN nm)).2 = 0
    · have hL := qrun_lit h1 [.remove (jhandN nm), .flush] (by simp; omega) (fun o ho => by simp at ho; rcases ho with rfl | rfl <;> simp [odSmall]; omega) (fun o ho => by simp at ho; rcases ho with rfl | rfl <;> simp [odText])
      have hjr : jright d nm = if (jrun d [.remove (jhandN nm), .flush]).2.1 ≠ 0 then ⟨(jrun d [.remove (jhandN nm), .flush]).1, [], (jrun d [.remove (jhandN nm), .flush]).2.1⟩ else jr1 (jrun d [.remove (jhandN nm), .flush]).1 nm := by
        unfold jright
        rw [if_pos hd0]
        simp only [jrun]
        by_cases h1 : (ddo d (.remove (jhandN nm))).2 = 0
        · by_cases h2 : (ddo (ddo d (.remove (jhandN nm))).1 .flush).2 = 0
          · simp [h1, h2]
          · simp [h1, h2]
        · simp [h1]
      rw [hd0]
      generalize jrun d [.remove (jhandN nm), .flush] = q at *
      have HL := Lib.hid hL
      have HJ := Lib.hid hjr
      have HS1 := Lib.hid hs1
      clear hL hjr hd0 h1 hs1 hb1 HR H
      go_wp2_with (fail)
      refine HL.out.mono ?_
      rintro e w2 ⟨rfl, A2, h2, hs2⟩
      obtain ⟨qd, qe, qk⟩ := q
      simp only at h2 ⊢
      have hs02 := HS1.out.trans hs2
      by_cases hz : qe = 0
      · subst hz
        have hmid : QrMid w w2 A g d N nm := ⟨qd, A2, by rw [HJ.out, if_neg (by simp)], h2, hs02⟩
        have HMID := Lib.hid hmid
        clear hmid h2 hs2 hs02 HL HJ HS1
        go_wp2_with (fail)
        go_meet
        exact ⟨rfl, HMID.out⟩
      · have hq : ((qe : Int) != 0) = true := by simp; omega
        have hfin : QrPost w A g N (jright d nm) (.returned (.tuple #[.slice none 0 0, .int .i64 qe])) w2 := by
          rw [HJ.out, if_pos (by simpa using hz)]
          exact QrPost.none h2 (by simp) hs02
        have HF := Lib.hid hfin
        clear hfin h2 hs2 hs02 HL HJ HS1 hz
        go_wp2
        go_ret2
        exact HF.out
    · have hq : (((dread d (jhandN nm)).2 : Int) == 0) = false := by simp; omega
      have hmid : QrMid w w1 A g d N nm := ⟨d, A, by unfold jright; rw [if_neg hd0], h1.mono (by omega), hs1⟩
      have HMID := Lib.hid hmid
      clear hmid h1 hs1 hb1 HR H hd0
      generalize (dread d (jhandN nm)).2 = n0 at *
      go_wp2_with (fail)
      go_meet
      exact ⟨rfl, HMID.out⟩
  case rest =>
    clear hs1 h1 hb1 HR H
    obtain ⟨rfl, hm⟩ := hcut
    obtain ⟨d1, A1, hj, h1, hs1⟩ := hm.out
    obtain ⟨x, c, hx⟩ : ∃ x c, dread d1 nm = (x, c) := ⟨_, _, rfl⟩
    have hxl : x.length ≤ 268435456 := by
      obtain ⟨fv, nv, sv, pv, kv, -, hb, -⟩ := h1
      have := dread_few hb.bd nm
      rw [hx] at this
      exact this
    have hRd := rRead_rd h1 (by omega) nm
    rw [hx] at hRd
    have HR := Lib.hid hRd
    have HJ := Lib.hid hj
    have H1 := Lib.hid h1
    have HS1 := Lib.hid hs1
    have HX := Lib.hid hx
    clear hm hj h1 hs1 hRd hx
    go_wp2_with (fail)
    refine HR.out.mono ?_
    rintro e w2 ⟨rfl, hb2⟩
    have h2 := H1.out.below hb2
    have hs2 : Stp A A1 w w2 := HS1.out.trans (Stp.of_below (A := A1) (B := A1) hb2 fun k hk => Or.inl hk)
    clear hb2 HR H1 HS1
    by_cases h18 : c = 18
    · subst h18
      have hL := qrun_lit h2 [.create nm] (by simp; omega) (fun o ho => by simp at ho; subst ho; simp [odSmall]; omega) (fun o ho => by simp at ho; subst ho; simp [odText])
      have hjr : jright d nm = ⟨(jrun d1 [.create nm]).1, [], (jrun d1 [.create nm]).2.1⟩ := by
        rw [HJ.out]
        unfold jr1
        rw [HX.out, if_pos rfl]
        simp only [jrun]
        by_cases h1 : (ddo d1 (.create nm)).2 = 0
        · simp [h1]
        · simp [h1]
      generalize jrun d1 [.create nm] = q at *
      obtain ⟨qd, qe, qk⟩ := q
      have HL := Lib.hid hL
      have HJR := Lib.hid hjr
      have HS2 := Lib.hid hs2
      clear hL hjr h2 hs2 HJ HX
      go_wp2_with (fail)
      refine HL.out.mono ?_
      rintro e w3 ⟨rfl, A3, h3, hs3⟩
      have hfin : QrPost w A g N (jright d nm) (.returned (.tuple #[.slice none 0 0, .int .i64 qe])) w3 := by
        rw [HJR.out]
        exact QrPost.none h3 (by simp) (HS2.out.trans hs3)
      have HF := Lib.hid hfin
      clear hfin h3 hs3 HL HJR HS2
      go_wp2
      go_ret2
      exact HF.out
    · have hq18 : ((c : Int) == 18) = false := by simp; omega
      by_cases h0 : c = 0
      · subst h0
        have hle := (jbegin_le _ x (Nat.le_refl _)).1
        have hle2 := (jbegin_le _ x (Nat.le_refl _)).2
        have hB := qBeginning_any x w2 (by omega)
        have hsx := str_size x
        have HB := Lib.hid hB
        have H2 := Lib.hid h2
        have HS2 := Lib.hid hs2
        clear hB h2 hs2 h18
        go_wp2_with (fail)
        refine HB.out.mono ?_
        rintro e w3 ⟨v, rfl, hrow, hb3⟩
        have h3 := H2.out.below hb3
        have hs3 : Stp A A1 w w3 := HS2.out.trans (Stp.of_below (A := A1) (B := A1) hb3 fun k hk => Or.inl hk)
        have hlt2 := H2.out.lt
        have hrow0 := row_lessK hrow HS2.out.size
        have hnv : ∀ k, v.ownBlock = some k → k ∉ A1 ∧ k < w3.heap.size := fun k hk => ⟨fun hm => by have := hlt2 k hm; have := (hrow.lt k hk).1; omega, (hrow.lt k hk).2⟩
        obtain ⟨va, vc, hve⟩ := row_shapeK hrow
        clear hrow hb3 HB H2 HS2 hlt2
        by_cases hw : (jbegin x).2 = x.length
        · have hfin : QrPost w A g N (jright d nm) (.returned (.tuple #[v, .int .i64 0])) w3 := by
            have e : jright d nm = ⟨d1, (jbegin x).1, 0⟩ := by
              rw [HJ.out]
              unfold jr1
              rw [HX.out, if_neg (by simp), if_pos rfl]
              simp only
              rw [if_neg (by omega)]
            rw [e]
            exact ⟨v, rfl, hrow0, A1, h3.mono (by omega), hs3, fun k hk => (hnv k hk).1⟩
          have HF := Lib.hid hfin
          have hqw : (((jbegin x).2 : Int) == (x.length : Int)) = true := by simp; omega
          subst hve
          clear hfin h3 hs3 hrow0 hnv HJ HX hw hle hle2
          generalize (jbegin x).2 = m at *
          generalize (jbegin x).1 = l at *
          go_wp2
          go_ret2
          exact HF.out
        · have hL := qrun_lit h3 (jcutL nm (x.take (jbegin x).2)) (by simp [jcutL]; omega) (fun o ho => by simp [jcutL] at ho; rcases ho with rfl | rfl | rfl | rfl <;> simp [odSmall] <;> omega) (fun o ho => by simp [jcutL] at ho; rcases ho with rfl | rfl | rfl | rfl <;> simp [odText]; omega)
          have hjr : jright d nm = ⟨(jcut d1 nm (x.take (jbegin x).2)).1, (jbegin x).1, (jcut d1 nm (x.take (jbegin x).2)).2⟩ := by
            rw [HJ.out]
            unfold jr1
            rw [HX.out, if_neg (by simp), if_pos rfl]
            simp only
            rw [if_pos (by omega)]
          rw [jcut_run] at hjr
          have hqw : (((jbegin x).2 : Int) == (x.length : Int)) = false := by simp; omega
          have hex : (str x).extract 0 (jbegin x).2 = str (x.take (jbegin x).2) := by rw [str_extract]; simp
          unfold jcutL at hL hjr
          generalize x.take (jbegin x).2 = t at *
          generalize hq : jrun d1 [Od.create (jhandN nm), Od.write (jhandN nm) t, Od.sync (jhandN nm), Od.rename (jhandN nm) nm] = q at *
          obtain ⟨qd, qe, qk⟩ := q
          simp only at hjr
          generalize (jbegin x).2 = m at *
          generalize (jbegin x).1 = l at *
          have ik0 : (0 : Int) ≤ (m : Int) := by omega
          have ik1 : (m : Int) ≤ (x.length : Int) := by omega
          have HL := Lib.hid hL
          have HJR := Lib.hid hjr
          have HS3 := Lib.hid hs3
          have HROW := Lib.hid hrow0
          have HNV := Lib.hid hnv
          subst hve
          clear hL hjr hq h3 hs3 hrow0 hnv HJ HX hw hle hle2
          go_wp2_with (fail)
          refine HL.out.mono ?_
          rintro e w4 ⟨rfl, A4, h4, hs4⟩
          have hrow4 := ownsRow_same HROW.out (w' := w4) (fun k hk => hs4.block k (HNV.out k hk).2 (HNV.out k hk).1)
          have hnv4 : ∀ k, (Value.slice va l.length vc).ownBlock = some k → k ∉ A4 ∧ k < w4.heap.size := fun k hk => ⟨fun hm => by
            rcases hs4.inn k hm with h | h
            · exact (HNV.out k hk).1 h
            · have := (HNV.out k hk).2; omega, Nat.lt_of_lt_of_le (HNV.out k hk).2 hs4.size⟩
          have hs04 := HS3.out.trans hs4
          have HROW4 := Lib.hid hrow4
          have HNV4 := Lib.hid hnv4
          have HS04 := Lib.hid hs04
          have HSZ4 : Hid (w.heap.size ≤ w4.heap.size) := hs04.size
          have H4 := Lib.hid h4
          clear hrow4 hnv4 hs04 h4 hs4 HL HROW HNV HS3
          by_cases h19 : qe = 19 ∧ qk = 2
          · obtain ⟨rfl, rfl⟩ := h19
            have hL5 := qrun_lit H4.out [.remove (jhandN nm)] (by simp; omega) (fun o ho => by simp at ho; subst ho; simp [odSmall]; omega) (fun o ho => by simp at ho; subst ho; simp [odText])
            have HL5 := Lib.hid hL5
            clear hL5
            go_wp2_with (fail)
            refine HL5.out.mono ?_
            rintro e w5 ⟨rfl, A5, h5, hs5⟩
            have hrow5 := ownsRow_same HROW4.out (w' := w5) (fun k hk => hs5.block k (HNV4.out k hk).2 (HNV4.out k hk).1)
            have hnv5 : ∀ k, (Value.slice va l.length vc).ownBlock = some k → k ∉ A5 ∧ k < w5.heap.size := fun k hk => ⟨fun hm => by
              rcases hs5.inn k hm with h | h
              · exact (HNV4.out k hk).1 h
              · have := (HNV4.out k hk).2; omega, Nat.lt_of_lt_of_le (HNV4.out k hk).2 hs5.size⟩
            have hs05 := HS04.out.trans hs5
            have hL6 := qrun_lit h5 [.flush] (by simp; omega) (fun o ho => by simp at ho; subst ho; simp [odSmall]) (fun o ho => by simp at ho; subst ho; simp [odText])
            have hend : jright d nm = ⟨(jrun (jrun qd [.remove (jhandN nm)]).1 [.flush]).1, l, 19⟩ := by
              rw [HJR.out, if_pos (by simp), jrun_one, jrun_one]
              simp [jclean]
            generalize jrun qd [.remove (jhandN nm)] = q5 at *
            generalize jrun q5.1 [.flush] = q6 at *
            have HL6 := Lib.hid hL6
            have HROW5 := Lib.hid hrow5
            have HNV5 := Lib.hid hnv5
            have HS05 := Lib.hid hs05
            have HEND := Lib.hid hend
            clear hL6 hrow5 hnv5 hs05 h5 hs5 hend HL5 HROW4 HNV4 HS04 H4 HJR
            go_wp2_with (fail)
            refine HL6.out.mono ?_
            rintro e w6 ⟨rfl, A6, h6, hs6⟩
            have hfin : QrPost w A g N (jright d nm) (.returned (.tuple #[.slice va l.length vc, .int .i64 (19 : Nat)])) w6 := by
              rw [HEND.out]
              refine ⟨_, rfl, ownsRow_same HROW5.out (w' := w6) (fun k hk => hs6.block k (HNV5.out k hk).2 (HNV5.out k hk).1), A6, h6.mono (by simp), HS05.out.trans hs6, fun k hk hm => ?_⟩
              rcases hs6.inn k hm with h | h
              · exact (HNV5.out k hk).1 h
              · have := (HNV5.out k hk).2; omega
            have HF := Lib.hid hfin
            clear hfin h6 hs6 HL6 HROW5 HNV5 HS05 HEND
            go_wp2
            go_ret2
            exact HF.out
          · have hfin : QrPost w A g N (jright d nm) (.returned (.tuple #[.slice va l.length vc, .int .i64 qe])) w4 := by
              rw [HJR.out, if_neg h19]
              exact ⟨_, rfl, HROW4.out, A4, H4.out.mono (by simp), HS04.out, fun k hk => (HNV4.out k hk).1⟩
            have HF := Lib.hid hfin
            clear hfin HROW4 HNV4 HS04 H4 HJR
            by_cases h9 : qe = 19
            · subst h9
              have hqk : (qk == 2) = false := by
                have : ¬ qk = 2 := fun h => h19 (by simp [h])
                simpa using this
              clear h19
              go_wp2
              go_ret2
              exact HF.out
            · have hqe : ((qe : Int) == 19) = false := by simp; omega
              clear h19 h9
              go_wp2
              go_ret2
              exact HF.out
      · have hq0 : ((c : Int) != 0) = true := by simp; omega
        have hfin : QrPost w A g N (jright d nm) (.returned (.tuple #[.slice none 0 0, .int .i64 c])) w2 := by
          have e : jright d nm = ⟨d1, [], c⟩ := by
            rw [HJ.out]
            unfold jr1
            rw [HX.out, if_neg (by simpa using h18)]
            simp only
            rw [if_neg h0]
          rw [e]
          exact QrPost.none h2 (by omega) hs2
        have HF := Lib.hid hfin
        clear hfin h2 hs2 HJ HX h0 h18
        go_wp2
        go_ret2
        exact HF.out
end Go.Proofs.YtfgpigblnkanpaaGreatDoor
