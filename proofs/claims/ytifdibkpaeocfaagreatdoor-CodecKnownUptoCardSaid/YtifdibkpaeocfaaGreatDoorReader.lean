/- The walks of the document's reader: number, text, fail, through its pointer. -/
import Derived.Test.YtifdibkpaeocfaaGreatDoorRefRead
import Derived.Test.YtifdibkpaeocfaaGreatDoorUnpack
import Derived.Test.YtifdibkpaeocfaaGreatDoorStr
import Derived.BigQuiet
import Derived.IntWalk
import Derived.Deep.RegionHeld3
namespace Go.Proofs.YtifdibkpaeocfaaGreatDoor
open Go.RowKit

/-- A reader in memory: its text, its place, its error. -/
def Rd (w : World) (g : Nat) (s : List UInt8) (at_ no : Nat) : Prop := Blk w g [strV s, .int .i64 at_, .int .i64 no] 86

theorem grown_refl (w : World) (r : Option Nat) : w.grownBy w r := ⟨rfl, rfl, rfl, Nat.le_refl _, fun _ _ _ => rfl⟩
theorem grown_set {w w1 : World} {g : Nat} (h : w.grownBy w1 (some g)) (i : Nat) (v : Value) : w.grownBy (w1.setCell ⟨g, i, none⟩ v) (some g) :=
  ⟨h.os, h.tape, h.output, by simpa [World.setCell] using h.size, fun k hk hne => by
    rw [← h.block k hk hne]
    have e : g ≠ k := fun e => hne (by rw [e])
    simp only [World.setCell, Array.getElem?_modify, if_neg e]⟩
theorem grown_drewN {w w1 : World} {r : Option Nat} (h : w.grownBy w1 r) (n : Nat) : w.grownBy (w1.drewN n) r := ⟨h.os, h.tape, h.output, h.size, h.block⟩
theorem grown_drew {w w1 : World} {r : Option Nat} (h : w.grownBy w1 r) : w.grownBy w1.drew r := ⟨h.os, h.tape, h.output, h.size, h.block⟩
theorem grown_trans {w w1 w2 : World} {r : Option Nat} (h : w.grownBy w1 r) (h2 : w1.grownBy w2 r) : w.grownBy w2 r :=
  ⟨h2.os.trans h.os, h2.tape.trans h.tape, h2.output.trans h.output, Nat.le_trans h.size h2.size, fun k hk hne => (h2.block k (Nat.lt_of_lt_of_le hk h.size) hne).trans (h.block k hk hne)⟩
theorem grown_below {w w1 : World} {g : Nat} (h : w.grownBy w1 (some g)) {B : Nat} (hB : B ≤ g) (hg : g < w.heap.size) : Below B w w1 :=
  ⟨h.os, h.tape, h.output, h.size, fun k hk => h.block k (by omega) (fun e => by simp at e; omega)⟩
theorem Rd_at {w : World} {g : Nat} {s : List UInt8} {at_ no : Nat} (h : Rd w g s at_ no) (k n : Nat) : Rd ((w.drewN k).setCell ⟨g, 1, none⟩ (.int .i64 ((at_ : Int) + n))) g s (at_ + n) no := by
  have h2 := (Blk.drewN h k).set 1 (.int .i64 ((at_ : Int) + n))
  simpa [Rd] using h2
set_option maxRecDepth 100000 in
theorem rdNumber_bad (w : World) (g : Nat) (s : List UInt8) (at_ no : Nat) (h : Rd w g s at_ no) (hno : no ≠ 0) : Calls Tryz.prog 34 #[.pointer (some ⟨g, 0, none⟩)] w fun e w' => e = .returned (.int .u64 0) ∧ w = w' := by
  have c2 := h.cell 2
  simp only [List.getElem?_cons_zero, List.getElem?_cons_succ] at c2
  have hne : ((no : Int) != 0) = true := by simp; omega
  have hne2 : ((no : Int) == 0) = false := by simp; omega
  go_enter Tryz.func34, Tryz.ntmps34
  go_wp2
  go_ret
  exact ⟨rfl, rfl⟩
set_option maxRecDepth 100000 in
theorem rdNumber_any (w : World) (g : Nat) (s : List UInt8) (at_ : Nat) (h : Rd w g s at_ 0) (hat : at_ ≤ s.length) (hs : s.length ≤ 4611686018427387904) : Calls Tryz.prog 34 #[.pointer (some ⟨g, 0, none⟩)] w fun e w' => e = .returned (.int .u64 (readU 0 0 (s.drop at_)).1) ∧ Rd w' g s (at_ + (readU 0 0 (s.drop at_)).2.1) (readU 0 0 (s.drop at_)).2.2 ∧ w.grownBy w' (some g) := by
  have c0 := h.cell 0
  have c1 := h.cell 1
  have c2 := h.cell 2
  simp only [List.getElem?_cons_zero, List.getElem?_cons_succ] at c0 c1 c2
  have e1 := str_size s
  have hR := fun w => refReadUint_in (str s) at_ w (by rw [e1]; exact hat) (by rw [e1]; exact hs)
  rw [str_data] at hR
  have hx : (readU 0 0 (s.drop at_)).2.1 ≤ s.length - at_ := by
    by_cases he : (readU 0 0 (s.drop at_)).2.2 = 0
    · have := (readU_ok he).2.1
      rw [List.length_drop] at this
      exact this
    · rw [(readU_bad0 _ 0 0 he).2.1]; omega
  generalize (readU 0 0 (s.drop at_)).1 = n at *
  generalize (readU 0 0 (s.drop at_)).2.1 = x at *
  generalize (readU 0 0 (s.drop at_)).2.2 = no at *
  have HR := Lib.hid hR
  have H := Lib.hid h
  have f2 := Blk.free h 2
  have f1 := Blk.free h 1
  clear hR h
  have i1 : IntKind.i64.wrap ((at_ : Int) + x) = (at_ : Int) + x := IntWalk.i64_in _ (by omega)
  go_enter Tryz.func34, Tryz.ntmps34
  go_wp2_with (fail)
  go_region_held3 (fun w' => w'.cell? ⟨g, 0, none⟩ = some (strV s) ∧ w'.cell? ⟨g, 1, none⟩ = some (.int .i64 at_) ∧ w'.cell? ⟨g, 2, none⟩ = some (.int .i64 (0 : Nat))) (go_keep)
    (first | (go_at_call 74; refine (HR.out _).mono ?_; rintro e w1 ⟨rfl, rfl⟩))
  go_wp2
  go_ret
  refine ⟨rfl, ?_, grown_set (grown_set (grown_drew (grown_refl w _)) 2 _) 1 _⟩
  have h2 := Blk.drew ((Blk.set H.out 2 (.int .i64 no)).set 1 (.int .i64 ((at_ : Int) + x)))
  simpa [Rd] using h2

set_option maxRecDepth 100000 in
theorem rdFail_any (w : World) (g : Nat) (s : List UInt8) (at_ no f : Nat) (so : Bool) (h : Rd w g s at_ no) : Calls Tryz.prog 35 #[.pointer (some ⟨g, 0, none⟩), .int .i64 f, .bool so] w fun e w' => e = .returned (.tuple #[]) ∧ Rd w' g s at_ (if no = 0 ∧ so = true then f else no) ∧ w.grownBy w' (some g) := by
  have c2 := h.cell 2
  have f2 := Blk.free h 2
  simp only [List.getElem?_cons_zero, List.getElem?_cons_succ] at c2
  have H := Lib.hid h
  clear h
  by_cases h0 : no = 0
  · subst h0
    cases so with
    | true =>
      go_enter Tryz.func35, Tryz.ntmps35
      go_wp2
      refine bodyPost_end (v := .tuple #[]) (by simp [results, Tryz.results35]) rfl ⟨rfl, ?_, grown_set (grown_refl w _) 2 _⟩
      have h2 := Blk.set H.out 2 (.int .i64 f)
      simpa [Rd] using h2
    | false =>
      go_enter Tryz.func35, Tryz.ntmps35
      go_wp2
      refine bodyPost_end (v := .tuple #[]) (by simp [results, Tryz.results35]) rfl ⟨rfl, by simpa using H.out, grown_refl w _⟩
  · have hne : ((no : Int) == 0) = false := by simp; omega
    go_enter Tryz.func35, Tryz.ntmps35
    go_wp2
    refine bodyPost_end (v := .tuple #[]) (by simp [results, Tryz.results35]) rfl ⟨rfl, by first | exact H.out | (rw [if_neg (fun hh => h0 hh.1)]; exact H.out), grown_refl w _⟩

set_option maxRecDepth 100000 in
theorem rdText_bad (w : World) (g : Nat) (s : List UInt8) (at_ no n : Nat) (h : Rd w g s at_ no) (hno : no ≠ 0) : Calls Tryz.prog 36 #[.pointer (some ⟨g, 0, none⟩), .int .u64 n] w fun e w' => e = .returned (strV []) ∧ w = w' := by
  have c2 := h.cell 2
  simp only [List.getElem?_cons_zero, List.getElem?_cons_succ] at c2
  have hne : ((no : Int) != 0) = true := by simp; omega
  have hne2 : ((no : Int) == 0) = false := by simp; omega
  go_enter Tryz.func36, Tryz.ntmps36
  go_wp2
  go_ret
  exact ⟨rfl, rfl⟩
set_option maxRecDepth 100000 in
theorem rdText_short (w : World) (g : Nat) (s : List UInt8) (at_ n : Nat) (h : Rd w g s at_ 0) (hat : at_ ≤ s.length) (hs : s.length ≤ 4611686018427387904) (_hn : n < 18446744073709551616) (hsh : s.length - at_ < n) : Calls Tryz.prog 36 #[.pointer (some ⟨g, 0, none⟩), .int .u64 n] w fun e w' => e = .returned (strV []) ∧ Rd w' g s at_ 2 ∧ w.grownBy w' (some g) := by
  have c0 := h.cell 0
  have c1 := h.cell 1
  have c2 := h.cell 2
  simp only [List.getElem?_cons_zero, List.getElem?_cons_succ] at c0 c1 c2
  have f2 := Blk.free h 2
  have e1 := str_size s
  have H := Lib.hid h
  clear h
  have i1 : IntKind.i64.wrap ((s.length : Int) - at_) = (s.length : Int) - at_ := IntWalk.i64_in _ (by omega)
  have i2 : IntKind.u64.wrap ((s.length : Int) - at_) = (s.length : Int) - at_ := u64_in (by omega) (by omega)
  have i3 : (s.length : Int) - at_ < n := by omega
  go_enter Tryz.func36, Tryz.ntmps36
  go_wp2_with (fail)
  go_quiet (fail)
  go_wp2
  go_ret
  refine ⟨rfl, ?_, grown_set (grown_drewN (grown_refl w _) nq) 2 _⟩
  have h2 := (Blk.drewN H.out nq).set 2 (.int .i64 2)
  simpa [Rd] using h2
set_option maxRecDepth 100000 in
theorem rdText_fine (w : World) (g : Nat) (s : List UInt8) (at_ n : Nat) (h : Rd w g s at_ 0) (hat : at_ ≤ s.length) (hs : s.length ≤ 4611686018427387904) (hsh : n ≤ s.length - at_) : Calls Tryz.prog 36 #[.pointer (some ⟨g, 0, none⟩), .int .u64 n] w fun e w' => e = .returned (strV ((s.drop at_).take n)) ∧ Rd w' g s (at_ + n) 0 ∧ w.grownBy w' (some g) := by
  have c0 := h.cell 0
  have c1 := h.cell 1
  have c2 := h.cell 2
  simp only [List.getElem?_cons_zero, List.getElem?_cons_succ] at c0 c1 c2
  have f1 := Blk.free h 1
  have e1 := str_size s
  have H := Lib.hid h
  clear h
  have i1 : IntKind.i64.wrap ((s.length : Int) - at_) = (s.length : Int) - at_ := IntWalk.i64_in _ (by omega)
  have i2 : IntKind.u64.wrap ((s.length : Int) - at_) = (s.length : Int) - at_ := u64_in (by omega) (by omega)
  have i3 : (n : Int) ≤ (s.length : Int) - at_ := by omega
  have hw1 : IntKind.i64.wrap (n : Int) = n := IntWalk.i64_in _ (by omega)
  have hp1 : (0 : Int) ≤ (at_ : Int) + n := by omega
  have hp2 : ((at_ : Int) + n).toNat = at_ + n := by omega
  have hp3 : (at_ : Int) + n ≤ s.length := by omega
  have hp4 : (at_ : Int) ≤ (at_ : Int) + n := by omega
  have hw2 : IntKind.i64.wrap ((at_ : Int) + n) = (at_ : Int) + n := IntWalk.i64_in _ (by omega)
  go_enter Tryz.func36, Tryz.ntmps36
  go_wp2_with (fail)
  go_quiet (fail)
  go_wp2_with (fail)
  go_quiet (fail)
  go_wp2_with (fail)
  go_ret
  refine ⟨?_, ?_, ?_⟩
  · show Ending.returned (.string ((str s).extract at_ (at_ + n))) = _
    have e3 : (s.take (at_ + n)).drop at_ = (s.drop at_).take n := by rw [List.drop_take]; congr 1; omega
    rw [str_extract, e3]
  · exact Rd_at H.out _ n
  · exact grown_set (grown_drewN (grown_refl w _) _) 1 _

/-! ### the three as plain functions -/
def rdN (s : List UInt8) (at_ no : Nat) : Nat × Nat × Nat := if no = 0 then ((readU 0 0 (s.drop at_)).1, at_ + (readU 0 0 (s.drop at_)).2.1, (readU 0 0 (s.drop at_)).2.2) else (0, at_, no)
def rdT (s : List UInt8) (n at_ no : Nat) : List UInt8 × Nat × Nat := if no = 0 then (if s.length - at_ < n then ([], at_, 2) else ((s.drop at_).take n, at_ + n, 0)) else ([], at_, no)
def rdF (f : Nat) (so : Bool) (no : Nat) : Nat := if no = 0 ∧ so = true then f else no
theorem rdNumber_all (w : World) (g : Nat) (s : List UInt8) (at_ no : Nat) (h : Rd w g s at_ no) (hat : at_ ≤ s.length) (hs : s.length ≤ 4611686018427387904) : Calls Tryz.prog 34 #[.pointer (some ⟨g, 0, none⟩)] w fun e w' => e = .returned (.int .u64 (rdN s at_ no).1) ∧ Rd w' g s (rdN s at_ no).2.1 (rdN s at_ no).2.2 ∧ w.grownBy w' (some g) := by
  by_cases h0 : no = 0
  · subst h0
    exact rdNumber_any w g s at_ h hat hs
  · have e : rdN s at_ no = (0, at_, no) := by rw [rdN, if_neg h0]
    rw [e]
    refine (rdNumber_bad w g s at_ no h h0).mono ?_
    rintro e w' ⟨rfl, rfl⟩
    exact ⟨rfl, h, grown_refl _ _⟩
theorem rdText_all (w : World) (g : Nat) (s : List UInt8) (at_ no n : Nat) (h : Rd w g s at_ no) (hat : at_ ≤ s.length) (hs : s.length ≤ 4611686018427387904) (hn : n < 18446744073709551616) : Calls Tryz.prog 36 #[.pointer (some ⟨g, 0, none⟩), .int .u64 n] w fun e w' => e = .returned (strV (rdT s n at_ no).1) ∧ Rd w' g s (rdT s n at_ no).2.1 (rdT s n at_ no).2.2 ∧ w.grownBy w' (some g) := by
  by_cases h0 : no = 0
  · subst h0
    by_cases hsh : s.length - at_ < n
    · have e : rdT s n at_ 0 = ([], at_, 2) := by rw [rdT, if_pos rfl, if_pos hsh]
      rw [e]
      exact rdText_short w g s at_ n h hat hs hn hsh
    · have e : rdT s n at_ 0 = ((s.drop at_).take n, at_ + n, 0) := by rw [rdT, if_pos rfl, if_neg hsh]
      rw [e]
      exact rdText_fine w g s at_ n h hat hs (by omega)
  · have e : rdT s n at_ no = ([], at_, no) := by rw [rdT, if_neg h0]
    rw [e]
    refine (rdText_bad w g s at_ no n h h0).mono ?_
    rintro e w' ⟨rfl, rfl⟩
    exact ⟨rfl, h, grown_refl _ _⟩
theorem rdFail_all (w : World) (g : Nat) (s : List UInt8) (at_ no f : Nat) (so : Bool) (h : Rd w g s at_ no) : Calls Tryz.prog 35 #[.pointer (some ⟨g, 0, none⟩), .int .i64 f, .bool so] w fun e w' => e = .returned (.tuple #[]) ∧ Rd w' g s at_ (rdF f so no) ∧ w.grownBy w' (some g) := rdFail_any w g s at_ no f so h

theorem rdNumber_to {w : World} {g : Nat} {s : List UInt8} {at_ no k a1 n1 : Nat} (h : Rd w g s at_ no) (hat : at_ ≤ s.length) (hs : s.length ≤ 4611686018427387904) (h1 : Hid (rdN s at_ no = (k, a1, n1))) : Calls Tryz.prog 34 #[.pointer (some ⟨g, 0, none⟩)] w fun e w' => e = .returned (.int .u64 k) ∧ Rd w' g s a1 n1 ∧ w.grownBy w' (some g) := by
  have := rdNumber_all w g s at_ no h hat hs
  rw [h1.out] at this
  exact this
theorem rdText_to {w : World} {g : Nat} {s t : List UInt8} {at_ no n a1 n1 : Nat} (h : Rd w g s at_ no) (hat : at_ ≤ s.length) (hs : s.length ≤ 4611686018427387904) (hn : n < 18446744073709551616) (h1 : Hid (rdT s n at_ no = (t, a1, n1))) : Calls Tryz.prog 36 #[.pointer (some ⟨g, 0, none⟩), .int .u64 n] w fun e w' => e = .returned (strV t) ∧ Rd w' g s a1 n1 ∧ w.grownBy w' (some g) := by
  have := rdText_all w g s at_ no n h hat hs hn
  rw [h1.out] at this
  exact this
theorem rdFail_to {w : World} {g : Nat} {s : List UInt8} {at_ no f n1 : Nat} {so : Bool} (h : Rd w g s at_ no) (h1 : Hid (n1 = rdF f so no)) : Calls Tryz.prog 35 #[.pointer (some ⟨g, 0, none⟩), .int .i64 f, .bool so] w fun e w' => e = .returned (.tuple #[]) ∧ Rd w' g s at_ n1 ∧ w.grownBy w' (some g) := by
  rw [h1.out]
  exact rdFail_all w g s at_ no f so h

/-! ### the reference's round is the pair -/
theorem rdN_le {s : List UInt8} {at_ no : Nat} (h : at_ ≤ s.length) : at_ ≤ (rdN s at_ no).2.1 ∧ (rdN s at_ no).2.1 ≤ s.length ∧ (rdN s at_ no).1 < 18446744073709551616 ∧ (no = 0 → (rdN s at_ no).2.2 = 0 → at_ < (rdN s at_ no).2.1) := by
  unfold rdN
  by_cases h0 : no = 0
  · rw [if_pos h0]
    by_cases he : (readU 0 0 (s.drop at_)).2.2 = 0
    · obtain ⟨q1, q2, q3, q4⟩ := readU_ok he
      rw [List.length_drop] at q2
      refine ⟨by show at_ ≤ at_ + _; omega, by show at_ + _ ≤ _; omega, q4, fun _ _ => by show at_ < at_ + _; omega⟩
    · obtain ⟨q1, q2, _⟩ := readU_bad0 _ 0 0 he
      rw [q1, q2]
      exact ⟨by show at_ ≤ at_ + 0; omega, by show at_ + 0 ≤ _; omega, by show 0 < _; omega, fun _ e => absurd e he⟩
  · rw [if_neg h0]
    exact ⟨Nat.le_refl _, h, by show 0 < _; omega, fun e => absurd e h0⟩
theorem rdT_le {s : List UInt8} {n at_ no : Nat} (h : at_ ≤ s.length) : (rdT s n at_ no).2.1 = at_ + (rdT s n at_ no).1.length ∧ (rdT s n at_ no).2.1 ≤ s.length := by
  unfold rdT
  split
  · split
    · exact ⟨rfl, h⟩
    · refine ⟨?_, by show at_ + n ≤ _; omega⟩
      show at_ + n = at_ + ((s.drop at_).take n).length
      rw [List.length_take, List.length_drop]; omega
  · exact ⟨rfl, h⟩
theorem rdN_bad {s : List UInt8} {at_ no : Nat} (h : no ≠ 0) : rdN s at_ no = (0, at_, no) := by rw [rdN, if_neg h]
theorem rdT_bad {s : List UInt8} {n at_ no : Nat} (h : no ≠ 0) : rdT s n at_ no = ([], at_, no) := by rw [rdT, if_neg h]
theorem rdF_bad {f : Nat} {so : Bool} {no : Nat} (h : no ≠ 0) : rdF f so no = no := by rw [rdF, if_neg (fun e => h e.1)]
theorem rdF_no {f : Nat} {no : Nat} : rdF f false no = no := by rw [rdF, if_neg (fun e => by cases e.2)]
theorem rdF_yes {f : Nat} : rdF f true 0 = f := by rw [rdF, if_pos ⟨rfl, rfl⟩]

/-- A text with its length ahead, by the two. -/
theorem rdNT {b : List UInt8} {p : Nat} (_hp : p ≤ b.length) : (rdT b (rdN b p 0).1 (rdN b p 0).2.1 (rdN b p 0).2.2).1 = (textsL (b.drop p)).1 ∧ (rdT b (rdN b p 0).1 (rdN b p 0).2.1 (rdN b p 0).2.2).2.2 = (textsL (b.drop p)).2.2 ∧ ((textsL (b.drop p)).2.2 = 0 → (textsL (b.drop p)).2.1 = b.drop (rdT b (rdN b p 0).1 (rdN b p 0).2.1 (rdN b p 0).2.2).2.1) := by
  have e : rdN b p 0 = ((readU 0 0 (b.drop p)).1, p + (readU 0 0 (b.drop p)).2.1, (readU 0 0 (b.drop p)).2.2) := by rw [rdN, if_pos rfl]
  rw [e]
  by_cases h0 : (readU 0 0 (b.drop p)).2.2 = 0
  · obtain ⟨q1, q2, q3, q4⟩ := readU_ok h0
    rw [List.length_drop] at q2
    by_cases h2 : (b.drop p).length - (readU 0 0 (b.drop p)).2.1 < (readU 0 0 (b.drop p)).1
    · rw [textsL_short h0 h2]
      rw [List.length_drop] at h2
      simp only [rdT, h0, if_true]
      rw [if_pos (by omega)]
      exact ⟨rfl, rfl, fun h => by cases h⟩
    · rw [textsL_ok h0 h2]
      rw [List.length_drop] at h2
      simp only [rdT, h0, if_true]
      rw [if_neg (by omega)]
      refine ⟨?_, rfl, fun _ => ?_⟩
      · show (b.drop (p + _)).take _ = ((b.drop p).drop _).take _
        rw [List.drop_drop]
      · show (b.drop p).drop (_ + _) = b.drop (p + _ + _)
        rw [List.drop_drop, Nat.add_assoc]
  · have e2 := rdT_bad (s := b) (n := (readU 0 0 (b.drop p)).1) (at_ := p + (readU 0 0 (b.drop p)).2.1) h0
    rw [textsL_err h0]
    dsimp only
    rw [e2]
    exact ⟨rfl, rfl, fun h => absurd h h0⟩
def bad4 (f : Bool) (key next : List UInt8) (k : Nat) : Bool := (!f && kle next key) || (cpl key next != k)
/-- A round that breaks. -/
theorem round_break {b key : List UInt8} {p k a1 n1 n2 n a2 n3 a3 n4 : Nat} {rest : List UInt8} {f : Bool} (hp : p ≤ b.length)
    (h1 : rdN b p 0 = (k, a1, n1)) (h2 : n2 = rdF 4 (decide (key.length < k)) n1) (h3 : rdN b a1 n2 = (n, a2, n3)) (h4 : rdT b n a2 n3 = (rest, a3, n4)) (hn : n4 ≠ 0) : (pairL (b.drop p) key f).2.2 = n4 := by
  have e := h1
  rw [rdN, if_pos rfl] at e
  simp only [Prod.mk.injEq] at e
  obtain ⟨e1, e2, e3⟩ := e
  have hle := rdN_le (no := 0) hp
  rw [h1] at hle
  by_cases hn1 : n1 = 0
  · have h0 : (readU 0 0 (b.drop p)).2.2 = 0 := by omega
    by_cases hk : key.length < k
    · rw [pairL_err2 h0 (by omega)]
      rw [hn1, decide_eq_true hk, rdF_yes] at h2
      rw [rdN_bad (by omega)] at h3
      simp only [Prod.mk.injEq] at h3
      rw [rdT_bad (by omega)] at h4
      simp only [Prod.mk.injEq] at h4
      show 4 = n4
      omega
    · rw [hn1, decide_eq_false hk, rdF_no] at h2
      subst h2
      obtain ⟨g1, g2, g3⟩ := rdNT (b := b) (p := a1) hle.2.1
      rw [h3] at g1 g2 g3
      simp only [h4] at g1 g2 g3
      have hd : (b.drop p).drop (readU 0 0 (b.drop p)).2.1 = b.drop a1 := by rw [List.drop_drop, e2]
      rw [pairL_err3 h0 (by omega) (by rw [hd]; omega), hd]
      exact g2.symm
  · rw [pairL_err1 (by omega)]
    rw [rdF_bad hn1] at h2
    rw [rdN_bad (by omega)] at h3
    simp only [Prod.mk.injEq] at h3
    rw [rdT_bad (by omega)] at h4
    simp only [Prod.mk.injEq] at h4
    show (readU 0 0 (b.drop p)).2.2 = n4
    omega
/-- A round that goes on. -/
theorem round_go {b key : List UInt8} {p k a1 n1 n2 n a2 n3 a3 n4 m n5 a4 n6 a5 n7 : Nat} {rest val : List UInt8} {f : Bool} (hp : p ≤ b.length)
    (h1 : rdN b p 0 = (k, a1, n1)) (h2 : n2 = rdF 4 (decide (key.length < k)) n1) (h3 : rdN b a1 n2 = (n, a2, n3)) (h4 : rdT b n a2 n3 = (rest, a3, n4)) (hn : n4 = 0)
    (h5 : n5 = rdF 4 (bad4 f key (key.take k ++ rest) k) n4) (h6 : rdN b a3 n5 = (m, a4, n6)) (h7 : rdT b m a4 n6 = (val, a5, n7)) :
    k ≤ key.length ∧ p < a3 ∧ (key.take k ++ rest).length ≤ key.length + (a3 - p) ∧ a3 ≤ a5 ∧ a5 ≤ b.length ∧ val.length ≤ b.length ∧ (n7 = 0 → pairL (b.drop p) key f = ((key.take k ++ rest, val), b.drop a5, 0)) ∧ (n7 ≠ 0 → (pairL (b.drop p) key f).2.2 = n7) := by
  have e := h1
  rw [rdN, if_pos rfl] at e
  simp only [Prod.mk.injEq] at e
  obtain ⟨e1, e2, e3⟩ := e
  have l1 := rdN_le (no := 0) hp
  rw [h1] at l1
  obtain ⟨l1a, l1b, l1c, l1d⟩ := l1
  have l3 := rdN_le (no := n2) l1b
  simp only [h3] at l3
  obtain ⟨l3a, l3b, l3c, l3d⟩ := l3
  have l4 := rdT_le (n := n) (no := n3) l3b
  simp only [h4] at l4
  obtain ⟨l4a, l4b⟩ := l4
  have l6 := rdN_le (no := n5) l4b
  simp only [h6] at l6
  obtain ⟨l6a, l6b, l6c, l6d⟩ := l6
  have l7 := rdT_le (n := m) (no := n6) l6b
  simp only [h7] at l7
  obtain ⟨l7a, l7b⟩ := l7
  have z3 : n3 = 0 := by
    by_cases hz : n3 = 0
    · exact hz
    · rw [rdT_bad hz] at h4
      simp only [Prod.mk.injEq] at h4
      omega
  have z2 : n2 = 0 := by
    by_cases hz : n2 = 0
    · exact hz
    · rw [rdN_bad hz] at h3
      simp only [Prod.mk.injEq] at h3
      omega
  have z1 : n1 = 0 := by
    by_cases hz : n1 = 0
    · exact hz
    · rw [rdF_bad hz] at h2
      omega
  have hk : ¬ key.length < k := by
    intro hk
    rw [z1, decide_eq_true hk, rdF_yes] at h2
    omega
  have h0 : (readU 0 0 (b.drop p)).2.2 = 0 := by omega
  have hd : (b.drop p).drop (readU 0 0 (b.drop p)).2.1 = b.drop a1 := by rw [List.drop_drop, e2]
  obtain ⟨g1, g2, g3⟩ := rdNT (b := b) (p := a1) l1b
  subst z2
  rw [h3] at g1 g2 g3
  simp only [h4] at g1 g2 g3
  have t3 : (textsL ((b.drop p).drop (readU 0 0 (b.drop p)).2.1)).2.2 = 0 := by rw [hd]; omega
  have g3' := g3 (by omega)
  have hkl : (key.take k ++ rest).length = k + rest.length := by rw [List.length_append, List.length_take]; omega
  have l1d' := l1d rfl z1
  refine ⟨by omega, by omega, by omega, by omega, by omega, by omega, ?_, ?_⟩
  · intro hn7
    have z6 : n6 = 0 := by
      by_cases hz : n6 = 0
      · exact hz
      · rw [rdT_bad hz] at h7
        simp only [Prod.mk.injEq] at h7
        omega
    have z5 : n5 = 0 := by
      by_cases hz : n5 = 0
      · exact hz
      · rw [rdN_bad hz] at h6
        simp only [Prod.mk.injEq] at h6
        omega
    have hb : bad4 f key (key.take k ++ rest) k = false := by
      cases hq : bad4 f key (key.take k ++ rest) k with
      | false => rfl
      | true => rw [hq, hn, rdF_yes] at h5; omega
    have h4' : ¬ ((f = false ∧ kle (key.take (readU 0 0 (b.drop p)).1 ++ (textsL ((b.drop p).drop (readU 0 0 (b.drop p)).2.1)).1) key = true) ∨ cpl key (key.take (readU 0 0 (b.drop p)).1 ++ (textsL ((b.drop p).drop (readU 0 0 (b.drop p)).2.1)).1) ≠ (readU 0 0 (b.drop p)).1) := by
      rw [hd, ← g1, e1]
      unfold bad4 at hb
      simp only [Bool.or_eq_false_iff, Bool.and_eq_false_iff, bne_eq_false_iff_eq] at hb
      rintro (⟨q1, q2⟩ | q)
      · rcases hb.1 with q | q
        · rw [q1] at q; cases q
        · rw [q2] at q; cases q
      · exact q hb.2
    subst z5
    obtain ⟨r1, r2, r3⟩ := rdNT (b := b) (p := a3) l4b
    rw [h6] at r1 r2 r3
    simp only [h7] at r1 r2 r3
    rw [pairL_fine h0 (by omega) t3 h4' (by rw [hd, g3']; omega)]
    rw [hd, g3', e1, ← g1, ← r1, r3 (by omega)]
  · intro hn7
    by_cases hb : bad4 f key (key.take k ++ rest) k = true
    · rw [hb, hn, rdF_yes] at h5
      rw [rdN_bad (by omega)] at h6
      simp only [Prod.mk.injEq] at h6
      rw [rdT_bad (by omega)] at h7
      simp only [Prod.mk.injEq] at h7
      rw [pairL_err4 h0 (by omega) t3 (by
        rw [hd, ← g1, e1]
        unfold bad4 at hb
        simp only [Bool.or_eq_true, Bool.and_eq_true, bne_iff_ne] at hb
        rcases hb with ⟨q1, q2⟩ | q
        · exact Or.inl ⟨by simpa using q1, q2⟩
        · exact Or.inr q)]
      show 4 = n7
      omega
    · have hb' : bad4 f key (key.take k ++ rest) k = false := by simpa using hb
      rw [hb', hn, rdF_no] at h5
      subst h5
      have h4' : ¬ ((f = false ∧ kle (key.take (readU 0 0 (b.drop p)).1 ++ (textsL ((b.drop p).drop (readU 0 0 (b.drop p)).2.1)).1) key = true) ∨ cpl key (key.take (readU 0 0 (b.drop p)).1 ++ (textsL ((b.drop p).drop (readU 0 0 (b.drop p)).2.1)).1) ≠ (readU 0 0 (b.drop p)).1) := by
        rw [hd, ← g1, e1]
        unfold bad4 at hb'
        simp only [Bool.or_eq_false_iff, Bool.and_eq_false_iff, bne_eq_false_iff_eq] at hb'
        rintro (⟨q1, q2⟩ | q)
        · rcases hb'.1 with q | q
          · rw [q1] at q; cases q
          · rw [q2] at q; cases q
        · exact q hb'.2
      obtain ⟨r1, r2, r3⟩ := rdNT (b := b) (p := a3) l4b
      rw [h6] at r1 r2 r3
      simp only [h7] at r1 r2 r3
      rw [pairL_err5 h0 (by omega) t3 h4' (by rw [hd, g3']; omega), hd, g3']
      exact r2.symm
end Go.Proofs.YtifdibkpaeocfaaGreatDoor
