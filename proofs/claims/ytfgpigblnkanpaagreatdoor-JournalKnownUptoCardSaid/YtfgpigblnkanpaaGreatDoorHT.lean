/- The document's journal: the walk of Open. The document's journal in memory. -/
import Derived.Test.YtfgpigblnkanpaaGreatDoorHS
import Derived.Test.YtfgpigblnkanpaaGreatDoorHK
namespace Go.Proofs.YtfgpigblnkanpaaGreatDoor
open Go.RowKit Go.Maps Go.Shelf
set_option linter.unusedVariables false
set_option linter.unusedSimpArgs false

theorem jrest_run (d : Dk) (nm : Nm) (l : List Nm) : (jrest d nm l).d = (jrun d [.sync nm, .flush]).1 ∧ (jrest d nm l).e = (jrun d [.sync nm, .flush]).2.1 ∧ ((jrest d nm l).e = 0 → (jrest d nm l).l = l) := by
  unfold jrest
  simp only [jrun]
  by_cases h1 : (ddo d (.sync nm)).2 = 0
  · by_cases h2 : (ddo (ddo d (.sync nm)).1 .flush).2 = 0
    · simp [h1, h2]
    · simp [h1, h2]
  · simp [h1]
/-- Behind Open. -/
def QoPost (w : World) (A : List Nat) (r : Nat) (N : Nat) (nm : Nm) (R : Jb) (e : Ending) (w' : World) : Prop :=
  (R.e ≠ 0 ∧ e = .returned (.tuple #[.pointer none, .slice none 0 0, .int .i64 (R.e : Nat)]) ∧ Rd2To r R.d (N + 10) A w w') ∨
  (R.e = 0 ∧ ∃ q v A', e = .returned (.tuple #[.pointer (some ⟨q, 0, none⟩), v, .int .i64 0]) ∧ w'.ownsRow w.heap.size 9 1 v R.l.length (R.l.map strV) ∧ Blk w' q [.pointer (some ⟨r, 0, none⟩), strV nm, .int .i64 (R.l.length : Nat), .bool false] 95 ∧ w.heap.size ≤ q ∧ Rd2 w' A' r R.d (N + 10) ∧ Stp A A' w w' ∧ q ∉ A' ∧ (∀ k, v.ownBlock = some k → k ∉ A' ∧ k ≠ q))
set_option maxHeartbeats 4000000 in
set_option maxRecDepth 100000 in
theorem qOpen_bad {w : World} {r : Nat} {nm : Nm} (hl : nm.length < 1 ∨ 199 < nm.length) (hm : nm.length ≤ 140737488351232) :
    Calls Tryz.prog 109 #[.pointer (some ⟨r, 0, none⟩), strV nm] w fun e w' => e = .returned (.tuple #[.pointer none, .slice none 0 0, .int .i64 21]) ∧ w = w' := by
  have hsz := str_size nm
  rcases hl with hl | hl
  · have h1 : (nm.length : Int) < 1 := by omega
    clear hl
    go_enter Tryz.func109, Tryz.ntmps109
    go_wp2
    go_ret3
    exact ⟨rfl, rfl⟩
  · have h1 : ¬ (nm.length : Int) < 1 := by omega
    have h2 : (199 : Int) < (nm.length : Int) := by omega
    clear hl
    go_enter Tryz.func109, Tryz.ntmps109
    go_wp2
    go_ret3
    exact ⟨rfl, rfl⟩
set_option maxHeartbeats 8000000 in
set_option maxRecDepth 100000 in
theorem qOpen_any {w : World} {A : List Nat} {r : Nat} {d : Dk} {N : Nat} (h : Rd2 w A r d N) (hN : N + 10 ≤ 1073741824) (nm : Nm) (hl : 1 ≤ nm.length ∧ nm.length ≤ 199) :
    Calls Tryz.prog 109 #[.pointer (some ⟨r, 0, none⟩), strV nm] w (QoPost w A r N nm (jstart d nm)) := by
  have hsz := str_size nm
  have h1 : ¬ (nm.length : Int) < 1 := by omega
  have h2 : ¬ (199 : Int) < (nm.length : Int) := by omega
  have happ := str_append nm [126]
  rw [show nm ++ [126] = jhandN nm from rfl] at happ
  have e1 : ({ data := #[126] } : ByteArray) = str [126] := rfl
  have hs126 := str_size [126]
  have hbig : ¬ (9223372036854775807 : Int) < (nm.length : Int) + 1 := by omega
  have hR := qright_any h (by omega) nm hl.2
  have HR := Lib.hid hR
  have HT := Lib.hid (jstart_then d nm)
  clear h hR
  generalize jright d nm = Q at *
  generalize jstart d nm = R at *
  go_enter Tryz.func109, Tryz.ntmps109
  go_wp2_with (fail)
  refine HR.out.mono ?_
  rintro e w1 ⟨v, rfl, hrow, A1, hr1, hs1, hnv⟩
  have hrl := hrow.lt
  obtain ⟨va, vc, hve⟩ := row_shapeK hrow
  by_cases hz : Q.e = 0
  · have hL := qrun_lit hr1 [.sync nm, .flush] (by simp; omega) (fun o ho => by simp at ho; rcases ho with rfl | rfl <;> simp [odSmall]; omega) (fun o ho => by simp at ho; rcases ho with rfl | rfl <;> simp [odText])
    obtain ⟨j1, j2, j3⟩ := jrest_run Q.d nm Q.l
    have hRe : R = jrest Q.d nm Q.l := by rw [HT.out]; unfold jthen; rw [if_neg (by simpa using hz)]
    rw [← hRe] at j1 j2 j3
    rw [hz]
    generalize jrun Q.d [.sync nm, .flush] = q at *
    obtain ⟨qd, qe, qk⟩ := q
    simp only at j1 j2
    have HL := Lib.hid hL
    have HROW := Lib.hid hrow
    have HNV := Lib.hid fun k hk => (⟨hnv k hk, (hrl k hk).2⟩ : k ∉ A1 ∧ k < w1.heap.size)
    have HS1 := Lib.hid hs1
    have HJ : Hid (R.d = qd ∧ R.e = qe ∧ (R.e = 0 → R.l = Q.l)) := ⟨j1, j2, j3⟩
    subst hve
    clear hL hrow hnv hs1 hr1 hrl j1 j2 j3 hRe hz HR HT
    generalize Q.l = l at *
    go_wp2_with (fail)
    refine HL.out.mono ?_
    rintro e w2 ⟨rfl, A2, h2, hs2⟩
    have hrow2 := ownsRow_same HROW.out (w' := w2) (fun k hk => hs2.block k (HNV.out k hk).2 (HNV.out k hk).1)
    have hnv2 : ∀ k, (Value.slice va l.length vc).ownBlock = some k → k ∉ A2 ∧ k < w2.heap.size := fun k hk => ⟨fun hm => by
      rcases hs2.inn k hm with h | h
      · exact (HNV.out k hk).1 h
      · have := (HNV.out k hk).2; omega, Nat.lt_of_lt_of_le (HNV.out k hk).2 hs2.size⟩
    have hs02 := HS1.out.trans hs2
    obtain ⟨j1, j2, j3⟩ := HJ.out
    by_cases hz : qe = 0
    · subst hz
      have hb3 : Below w2.heap.size w2 (w2.alloc (.cells #[.pointer (some ⟨r, 0, none⟩), strV nm, .int .i64 (l.length : Nat), .bool false] 95)) := (Below.refl _ w2).alloc (Nat.le_refl _) _
      have hlt2 := h2.lt
      have hfin : QoPost w A r N nm R (.returned (.tuple #[.pointer (some ⟨w2.heap.size, 0, none⟩), .slice va l.length vc, .int .i64 0])) (w2.alloc (.cells #[.pointer (some ⟨r, 0, none⟩), strV nm, .int .i64 (l.length : Nat), .bool false] 95)) := by
        refine Or.inr ⟨j2, w2.heap.size, _, A2, rfl, by rw [j3 j2]; exact row_below hrow2 hb3, by rw [j3 j2]; exact Blk.new _ _ _, hs02.size, (by rw [j1]; exact (h2.below hb3).mono (by simp)), hs02.trans (Stp.of_below (A := A2) (B := A2) hb3 fun k hk => Or.inl hk), fun hm => by have := hlt2 _ hm; omega, fun k hk => ⟨(hnv2 k hk).1, fun e => by have := (hnv2 k hk).2; omega⟩⟩
      have HF := Lib.hid hfin
      clear hfin hrow2 hnv2 hs02 h2 hs2 HL HROW HNV HS1 HJ j1 j2 j3 hb3 hlt2
      go_wp2
      go_ret3
      exact HF.out
    · have hq : ((qe : Int) != 0) = true := by simp; omega
      have hfin : QoPost w A r N nm R (.returned (.tuple #[.pointer none, .slice none 0 0, .int .i64 qe])) w2 := by
        refine Or.inl ⟨by rw [j2]; exact hz, by rw [j2], ?_⟩
        rw [j1]
        exact ⟨A2, h2.mono (by simp), hs02⟩
      have HF := Lib.hid hfin
      clear hfin hrow2 hnv2 hs02 h2 hs2 HL HROW HNV HS1 HJ j1 j2 j3 hz
      go_wp2
      go_ret3
      exact HF.out
  · have hRe : R = ⟨Q.d, [], Q.e⟩ := by rw [HT.out]; unfold jthen; rw [if_pos hz]
    have hq : ((Q.e : Int) == 0) = false := by simp; omega
    have hq2 : ((Q.e : Int) != 0) = true := by simp; omega
    have hfin : QoPost w A r N nm R (.returned (.tuple #[.pointer none, .slice none 0 0, .int .i64 (Q.e : Nat)])) w1 := by
      rw [hRe]
      exact Or.inl ⟨hz, rfl, A1, hr1.mono (by omega), hs1⟩
    have HF := Lib.hid hfin
    subst hve
    clear hfin hrow hnv hs1 hr1 hrl hRe hz HR HT
    generalize Q.e = qe at *
    go_wp2
    go_ret3
    exact HF.out
end Go.Proofs.YtfgpigblnkanpaaGreatDoor

namespace Go.Proofs.YtfgpigblnkanpaaGreatDoor
open Go.RowKit Go.Maps Go.Shelf
set_option linter.unusedVariables false
set_option linter.unusedSimpArgs false

/-- The document's journal at q over the document's disk at r, within the blocks A. -/
def QJ (w : World) (A : List Nat) (q r : Nat) (d : Dk) (N : Nat) (nm : Nm) (n : Nat) (c : Bool) : Prop :=
  ∃ A1, Rd2 w A1 r d N ∧ Blk w q [.pointer (some ⟨r, 0, none⟩), strV nm, .int .i64 (n : Nat), .bool c] 95 ∧ q ∉ A1 ∧ (∀ k ∈ A1, k ∈ A) ∧ q ∈ A ∧ ∀ k ∈ A, k < w.heap.size
def QJTo (q r : Nat) (d : Dk) (N : Nat) (nm : Nm) (n : Nat) (c : Bool) (A : List Nat) (w w' : World) : Prop := ∃ A', QJ w' A' q r d N nm n c ∧ Stp A A' w w'
section
variable {w w' : World} {A A1 A2 B B' : List Nat} {q r : Nat} {d d' : Dk} {N N' : Nat} {nm : Nm} {n n' : Nat} {c c' : Bool}
theorem QJ.below (h : QJ w A q r d N nm n c) (hb : Below w.heap.size w w') : QJ w' A q r d N nm n c := by
  obtain ⟨A1, h1, h2, h3, h4, h5, h6⟩ := h
  exact ⟨A1, h1.below hb, h2.below hb h2.lt, h3, h4, h5, fun k hk => Nat.lt_of_lt_of_le (h6 k hk) hb.size⟩
theorem QJ.other (h : QJ w A q r d N nm n c) (hs : Stp B B' w w') (hAB : ∀ k ∈ A, k ∉ B) : QJ w' A q r d N nm n c := by
  obtain ⟨A1, h1, h2, h3, h4, h5, h6⟩ := h
  exact ⟨A1, h1.other hs (fun k hk => hAB k (h4 k hk)), h2.same (hs.block q h2.lt (hAB q h5)), h3, h4, h5, fun k hk => Nat.lt_of_lt_of_le (h6 k hk) hs.size⟩
theorem QJ.mono (h : QJ w A q r d N nm n c) (hm : N ≤ N') : QJ w A q r d N' nm n c := by
  obtain ⟨A1, h1, h2⟩ := h
  exact ⟨A1, h1.mono hm, h2⟩
theorem QJ.lt (h : QJ w A q r d N nm n c) : ∀ k ∈ A, k < w.heap.size := by
  obtain ⟨A1, h1, h2, h3, h4, h5, h6⟩ := h
  exact h6
/-- An operation of its disk. -/
theorem QJ.op (hq : Blk w q [.pointer (some ⟨r, 0, none⟩), strV nm, .int .i64 (n : Nat), .bool c] 95) (hn : q ∉ A1) (h4 : ∀ k ∈ A1, k ∈ A) (h5 : q ∈ A) (ht : Rd2To r d' N' A1 w w') : QJTo q r d' N' nm n c A w w' := by
  obtain ⟨A2, h1, hs⟩ := ht
  have hql := hq.lt
  have hqA2 : q ∉ A2 := fun hm => by
    rcases hs.inn q hm with h | h
    · exact hn h
    · omega
  refine ⟨q :: A2, ⟨A2, h1, hq.same (hs.block q hql hn), hqA2, fun k hk => List.mem_cons_of_mem _ hk, List.mem_cons_self, fun k hk => ?_⟩, hs.os, hs.tape, hs.output, hs.size, fun k hk hm => hs.block k hk (fun e => hm (h4 k e)), fun k hk => ?_⟩
  · rcases List.mem_cons.1 hk with rfl | hk
    · exact Nat.lt_of_lt_of_le hql hs.size
    · exact h1.lt k hk
  · rcases List.mem_cons.1 hk with rfl | hk
    · exact Or.inl h5
    · exact (hs.inn k hk).imp (h4 k) id
theorem QJTo.put (h : QJTo q r d N nm n c A w w') (i : Nat) (v : Value) (n' : Nat) (c' : Bool) (he : ([.pointer (some ⟨r, 0, none⟩), strV nm, .int .i64 (n : Nat), .bool c] : List Value).set i v = [.pointer (some ⟨r, 0, none⟩), strV nm, .int .i64 (n' : Nat), .bool c']) (hq : q ∈ A) : QJTo q r d N nm n' c' A w (w'.setCell ⟨q, i, none⟩ v) := by
  obtain ⟨A', ⟨A1, h1, h2, h3, h4, h5, h6⟩, hs⟩ := h
  have hs2 : Stp [q] [q] w' (w'.setCell ⟨q, i, none⟩ v) := Stp.of_set _ _ _ (by simp) (fun k hk => Or.inl hk)
  refine ⟨A', ⟨A1, h1.other hs2 (fun k hk hm => by simp at hm; subst hm; exact h3 hk), by rw [← he]; exact h2.set i v, h3, h4, h5, fun k hk => by simpa [World.setCell] using h6 k hk⟩, hs.trans ((Stp.of_set (A := A') (B := A') w' ⟨q, i, none⟩ v h5 fun k hk => Or.inl hk))⟩
theorem QJTo.cells (h : QJTo q r d N nm n c A w w') : w'.cell? ⟨q, 2, none⟩ = some (.int .i64 (n : Nat)) ∧ w'.cell? ⟨q, 3, none⟩ = some (.bool c) ∧ w'.frozen? ⟨q, 2, none⟩ = false ∧ w'.frozen? ⟨q, 3, none⟩ = false ∧ q < w'.heap.size := by
  obtain ⟨A', ⟨A1, h1, h2, h3, h4, h5, h6⟩, hs⟩ := h
  exact ⟨h2.cell 2, h2.cell 3, h2.free 2, h2.free 3, h2.lt⟩
end
theorem jappend_run (d : Dk) (nm : Nm) (n : Nat) (r : Nm) (hr : r.length ≤ 16777216) : jappend d nm n false r = ⟨(jrun d [.write nm (jframe r), .sync nm]).1, (jrun d [.write nm (jframe r), .sync nm]).2.1, decide ((jrun d [.write nm (jframe r), .sync nm]).2.1 ≠ 0 ∧ ((jrun d [.write nm (jframe r), .sync nm]).2.1 ≠ 19 ∨ (jrun d [.write nm (jframe r), .sync nm]).2.2 ≠ 2)), if (jrun d [.write nm (jframe r), .sync nm]).2.1 = 0 then n + 1 else n⟩ := by
  have c2 := ddo_not19 (ddo d (.write nm (jframe r))).1 (.sync nm) (by intro n s h; cases h)
  unfold jappend
  rw [if_neg (by simp), if_neg (by omega)]
  simp only [jrun]
  by_cases h1 : (ddo d (.write nm (jframe r))).2 = 0
  · by_cases h2 : (ddo (ddo d (.write nm (jframe r))).1 (.sync nm)).2 = 0
    · simp [h1, h2]
    · simp [h1, h2, c2]
  · by_cases h19 : (ddo d (.write nm (jframe r))).2 = 19
    · simp [h19, odKind]
    · simp [h1, h19]
theorem jreset_run (d : Dk) (nm : Nm) (n : Nat) : jreset d nm n false = ⟨(jrun d [.create (jhandN nm), .rename (jhandN nm) nm, .flush]).1, (jrun d [.create (jhandN nm), .rename (jhandN nm) nm, .flush]).2.1, decide ((jrun d [.create (jhandN nm), .rename (jhandN nm) nm, .flush]).2.1 ≠ 0), if (jrun d [.create (jhandN nm), .rename (jhandN nm) nm, .flush]).2.1 = 0 then 0 else n⟩ := by
  unfold jreset
  rw [if_neg (by simp)]
  simp only [jrun]
  by_cases h1 : (ddo d (.create (jhandN nm))).2 = 0
  · by_cases h2 : (ddo (ddo d (.create (jhandN nm))).1 (.rename (jhandN nm) nm)).2 = 0
    · by_cases h3 : (ddo (ddo (ddo d (.create (jhandN nm))).1 (.rename (jhandN nm) nm)).1 .flush).2 = 0
      · simp [h1, h2, h3]
      · simp [h1, h2, h3]
    · simp [h1, h2]
  · simp [h1]
end Go.Proofs.YtfgpigblnkanpaaGreatDoor
