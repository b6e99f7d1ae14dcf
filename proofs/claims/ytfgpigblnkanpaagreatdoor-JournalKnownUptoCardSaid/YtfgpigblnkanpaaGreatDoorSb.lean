/- A journal's play: the files that others write; acts of the disk. -/
import Derived.Test.YtfgpigblnkanpaaGreatDoorHU
import Derived.Test.YtfgpigblnkanpaaGreatDoorKg
import Derived.Test.YtfgpigblnkanpaaGreatDoorGF
import Derived.StillTailTactics
namespace Go.Proofs.YtfgpigblnkanpaaGreatDoor
open Go.RowKit Go.Maps Go.Shelf
set_option linter.unusedVariables false
set_option linter.unusedSimpArgs false

/-- The name of a file that others write. -/
def fgn (nm : Nm) (n : Int) : Nm := if n % 4 = 0 then nm else if n % 4 = 1 then nm ++ [126] else if n % 4 = 2 then [111, 116, 104, 101, 114] else nm ++ [120]
theorem fgn_len {nm : Nm} {n : Int} {b : Nat} (h : nm.length ≤ b) : (fgn nm n).length ≤ b + 5 := by
  unfold fgn
  split
  · omega
  · split
    · simp; omega
    · split
      · simp
      · simp; omega
set_option maxHeartbeats 1000000 in
set_option maxRecDepth 100000 in
theorem wforeign_any (w : World) (wb : Nat) (nm : Nm) (n : Int) (c0 : w.cell? ⟨wb, 0, none⟩ = some (strV nm)) (hl : nm.length ≤ 140737488351232) (h1 : -9223372036854775808 ≤ n) (h2 : n ≤ 9223372036854775807) : Calls Tryz.prog 108 #[.pointer (some ⟨wb, 0, none⟩), .int .i64 n] w fun e w' => e = .returned (strV (fgn nm n)) ∧ w = w' := by
  have hsz := str_size nm
  have ha1 := str_append nm [126]
  have ha2 := str_append nm [120]
  have e1 : ({ data := #[126] } : ByteArray) = str [126] := rfl
  have e2 : ({ data := #[120] } : ByteArray) = str [120] := rfl
  have hs1 : (str [126]).size = 1 := rfl
  have hs2 : (str [120]).size = 1 := rfl
  have hPk := Pick_any n 4 w (by omega) (by omega)
  obtain ⟨m, hm⟩ : ∃ m : Int, n % ((4 : Nat) : Int) = m := ⟨_, rfl⟩
  have hmc : m = 0 ∨ m = 1 ∨ m = 2 ∨ m = 3 := by omega
  rw [hm] at hPk
  have hf : fgn nm n = if m = 0 then nm else if m = 1 then nm ++ [126] else if m = 2 then [111, 116, 104, 101, 114] else nm ++ [120] := by
    unfold fgn
    rw [← hm]
    rfl
  rw [hf]
  clear hf hm
  go_enter Tryz.func108, Tryz.ntmps108
  go_wp2_with (fail)
  refine hPk.mono ?_
  rintro e w1 ⟨rfl, rfl⟩
  clear hPk
  rcases hmc with rfl | rfl | rfl | rfl
  all_goals
    go_wp2_with (fail)
    go_ret
    exact ⟨rfl, rfl⟩
/-- The disk behind an act on it. -/
def fplay (nm : Nm) (d : Dk) (a : Ac) : Dk :=
  if a.kind % 9 = 3 then darm d a.n a.keep
  else if a.kind % 9 = 4 then dcrash d a.keep
  else if a.kind % 9 = 5 then drevive d
  else if a.kind % 9 = 7 then (ddo (ddo d (.create (fgn nm a.n))).1 (.write (fgn nm a.n) a.text)).1
  else if a.kind % 9 = 8 then (ddo d (.remove (fgn nm a.n))).1
  else d
theorem Rd2.mem {w : World} {A : List Nat} {r : Nat} {d : Dk} {N : Nat} (h : Rd2 w A r d N) : r ∈ A := by
  obtain ⟨fv, nv, sv, pv, kv, h1, h2, h3, h4⟩ := h
  exact h3 r (rfoot_mem.2 (Or.inl rfl))
section
variable {w0 w w' : World} {wb ab g r : Nat} {xs : List Value} {jv qv : Value} {jo qo jo' qo' : Jo} {d d' e e' : Dk} {N N' : Nat} {nm : Nm}
theorem Fs.rArm (h : Fs w0 w wb ab g r xs jv qv jo qo d e N nm) (n : Int) (av : Value) (keep : List Int) (hi : IntsAt w0 av keep) (hl : keep.length ≤ 1048576) (hw : wf64 keep) (hn : n ≤ 9223372036854775807) :
    Calls Tryz.prog 76 #[.pointer (some ⟨r, 0, none⟩), .int .i64 n, av] w fun x w' => x = .returned (.tuple #[]) ∧ Fs w0 w' wb ab g r xs jv qv jo qo d (darm e n keep) N nm :=
  h.callQ (E := fun x => x = .returned (.tuple #[])) (Nat.le_refl _) fun A hA hb => rArm_rd hA n av keep (hi.below h.py.bel) (by omega) hn hw (fun j hj e => by have h1 := hi.uses j hj; have h2 := hb _ hA.mem; omega)
theorem Fs.rCrash (h : Fs w0 w wb ab g r xs jv qv jo qo d e N nm) (hN : N ≤ 1073741824) (av : Value) (keep : List Int) (hi : IntsAt w0 av keep) (hl : keep.length ≤ 1048576) :
    Calls Tryz.prog 77 #[.pointer (some ⟨r, 0, none⟩), av] w fun x w' => x = .returned (.tuple #[]) ∧ Fs w0 w' wb ab g r xs jv qv jo qo d (dcrash e keep) N nm :=
  h.callQ (E := fun x => x = .returned (.tuple #[])) (Nat.le_refl _) fun A hA hb => rCrash_rd hA hN av keep (hi.below h.py.bel) (by omega) (fun j hj => by have h1 := hi.uses j hj; have h3 := h.py.bel.size; exact ⟨fun hm => by have h2 := hb _ hm; omega, by omega⟩)
theorem Fs.rRevive (h : Fs w0 w wb ab g r xs jv qv jo qo d e N nm) :
    Calls Tryz.prog 79 #[.pointer (some ⟨r, 0, none⟩)] w fun x w' => x = .returned (.tuple #[]) ∧ Fs w0 w' wb ab g r xs jv qv jo qo d (drevive e) N nm :=
  h.callQ (E := fun x => x = .returned (.tuple #[])) (Nat.le_refl _) fun A hA hb => rRevive_rd hA
theorem Fs.rDo (h : Fs w0 w wb ab g r xs jv qv jo qo d e N nm) (hN : N + 1 ≤ 1073741824) (o : Od) (nm' : Nm) (tx : List UInt8) (ho : odSmall o) (htx : ∀ n s, o = .write n s → tx = s) (htl : tx.length ≤ 140737488355328) :
    Calls Tryz.prog 70 #[.pointer (some ⟨r, 0, none⟩), .agg (odCells nm' o).toArray, strV tx] w fun x w' => x = .returned (.int .i64 ((ddo e o).2 : Nat)) ∧ Fs w0 w' wb ab g r xs jv qv jo qo d (ddo e o).1 (N + 1) nm :=
  h.callQ (E := fun x => x = .returned (.int .i64 ((ddo e o).2 : Nat))) (Nat.le_succ _) fun A hA hb => rDo_rd hA hN o nm' tx ho htx htl
theorem Fs.dArm (h : Fs w0 w wb ab g r xs jv qv jo qo d e N nm) (n : Int) (keep : List Int) {v' : Value} {B : Nat} (hr : w.ownsRow B 3 1 v' keep.length (keep.map (Value.int .i64))) (hl : keep.length ≤ 1048576) (hw : wf64 keep) (hn : n ≤ 9223372036854775807) :
    Calls Tryz.prog 26 #[.pointer (some ⟨g, 0, none⟩), .int .i64 n, .agg #[v']] w fun x w' => x = .returned (.tuple #[]) ∧ Fs w0 w' wb ab g r xs jv qv jo qo (darm d n keep) e N nm :=
  h.callP (E := fun x => x = .returned (.tuple #[])) (Nat.le_refl _) fun K A hK hA => (Arm_hd hA.hd n v' keep (IntsAt.of_row (row_lessK hr (Nat.zero_le _))) (by omega) hw hn (IntsAt.of_row (row_lessK hr (Nat.zero_le _))).uses).mono fun e w' ⟨he, hp⟩ => ⟨he, hA.to hp⟩
/-- A crash: the fate lies in memory made behind u. -/
theorem Fs.dCrash {u : World} (h : Fs w0 u wb ab g r xs jv qv jo qo d e N nm) (hb : Below u.heap.size u w) (hN : N ≤ 1073741824) (keep : List Int) {v' : Value} (hr : w.ownsRow u.heap.size 3 1 v' keep.length (keep.map (Value.int .i64))) :
    Calls Tryz.prog 18 #[.pointer (some ⟨g, 0, none⟩), .agg #[v']] w fun x w' => x = .returned (.tuple #[]) ∧ Fs w0 w' wb ab g r xs jv qv jo qo (dcrash d keep) e N nm := by
  have h2 := h.py.add hb v'.ownBlock.toList (fun k hk => hr.lt k (by simpa using hk))
  have h3 := h.below hb
  have hi := IntsAt.of_row (row_lessK hr (Nat.zero_le _))
  refine (h2.callP (E := fun x => x = .returned (.tuple #[])) (Nat.le_refl _) (fun K A hK hA => Crash_m hA v' keep rfl (by omega) hi (fun j hj => ⟨hi.uses j hj, (hA.far j (hK j (List.mem_append_left _ (by simp [usesOf_own hj])))).2⟩))).mono fun x w' hp => ⟨hp.1, ?_⟩
  exact h3.to ⟨hp.2.1.less (fun k hk => List.mem_append_right _ hk), fun k hk => hp.2.2 k (List.mem_append_right _ hk)⟩
theorem Fs.dRevive (h : Fs w0 w wb ab g r xs jv qv jo qo d e N nm) :
    Calls Tryz.prog 19 #[.pointer (some ⟨g, 0, none⟩)] w fun x w' => x = .returned (.tuple #[]) ∧ Fs w0 w' wb ab g r xs jv qv jo qo (drevive d) e N nm :=
  h.callP (E := fun x => x = .returned (.tuple #[])) (Nat.le_refl _) fun K A hK hA => Revive_m hA rfl
theorem Fs.dCreate (h : Fs w0 w wb ab g r xs jv qv jo qo d e N nm) (hN : N + 1 ≤ 1073741824) (n : Nm) (hn : n.length ≤ 140737488355328) :
    Calls Tryz.prog 30 #[.pointer (some ⟨g, 0, none⟩), strV n] w fun x w' => x = .returned (errV (ddo d (.create n)).2) ∧ Fs w0 w' wb ab g r xs jv qv jo qo (ddo d (.create n)).1 e (N + 1) nm :=
  h.callP (E := fun x => x = .returned (errV (ddo d (.create n)).2)) (Nat.le_succ _) fun K A hK hA => Create_m hA n rfl (by omega) (by omega)
theorem Fs.dRemove (h : Fs w0 w wb ab g r xs jv qv jo qo d e N nm) (hN : N + 1 ≤ 1073741824) (n : Nm) (hn : n.length ≤ 140737488355328) :
    Calls Tryz.prog 34 #[.pointer (some ⟨g, 0, none⟩), strV n] w fun x w' => x = .returned (errV (ddo d (.remove n)).2) ∧ Fs w0 w' wb ab g r xs jv qv jo qo (ddo d (.remove n)).1 e (N + 1) nm :=
  h.callP (E := fun x => x = .returned (errV (ddo d (.remove n)).2)) (Nat.le_succ _) fun K A hK hA => Remove_m hA n rfl (by omega) (by omega)
theorem Fs.dWrite (h : Fs w0 w wb ab g r xs jv qv jo qo d e N nm) (hN : N + 1 ≤ 1073741824) (n : Nm) (s : List UInt8) (hn : n.length ≤ 140737488355328) (hs : s.length ≤ 140737488355328) :
    Calls Tryz.prog 31 #[.pointer (some ⟨g, 0, none⟩), strV n, strV s] w fun x w' => x = .returned (errV (ddo d (.write n s)).2) ∧ Fs w0 w' wb ab g r xs jv qv jo qo (ddo d (.write n s)).1 e (N + 1) nm :=
  h.callP (E := fun x => x = .returned (errV (ddo d (.write n s)).2)) (Nat.le_succ _) fun K A hK hA => Write_m hA n s rfl (by omega) (by omega) hs
end
section
variable {w0 w w' : World} {wb ab g r : Nat} {xs : List Value} {jv qv : Value} {jo qo jo' qo' : Jo} {d d' e e' : Dk} {N N' c : Nat} {nm : Nm}
theorem Fs.rCreate (h : Fs w0 w wb ab g r xs jv qv jo qo d e N nm) (hN : N + 1 ≤ 1073741824) (n : Nm) (hn : n.length ≤ 140737488355328) (hc : ddo e (.create n) = (e', c)) :
    Calls Tryz.prog 70 #[.pointer (some ⟨r, 0, none⟩), .agg #[.int .i64 1, strV [], strV n, .int .i64 0], strV []] w fun x w' => x = .returned (.int .i64 (c : Nat)) ∧ Fs w0 w' wb ab g r xs jv qv jo qo d e' (N + 1) nm := by
  have h2 := h.rDo hN (.create n) [] [] hn (fun _ _ h => by cases h) (by simp)
  rw [hc] at h2
  exact h2
theorem Fs.rRemove (h : Fs w0 w wb ab g r xs jv qv jo qo d e N nm) (hN : N + 1 ≤ 1073741824) (n : Nm) (hn : n.length ≤ 140737488355328) (hc : ddo e (.remove n) = (e', c)) :
    Calls Tryz.prog 70 #[.pointer (some ⟨r, 0, none⟩), .agg #[.int .i64 5, strV [], strV n, .int .i64 0], strV []] w fun x w' => x = .returned (.int .i64 (c : Nat)) ∧ Fs w0 w' wb ab g r xs jv qv jo qo d e' (N + 1) nm := by
  have h2 := h.rDo hN (.remove n) [] [] hn (fun _ _ h => by cases h) (by simp)
  rw [hc] at h2
  exact h2
theorem Fs.rWrite (h : Fs w0 w wb ab g r xs jv qv jo qo d e N nm) (hN : N + 1 ≤ 1073741824) (n : Nm) (t : List UInt8) (hn : n.length ≤ 140737488355328) (ht : t.length ≤ 140737488355328) (hc : ddo e (.write n t) = (e', c)) :
    Calls Tryz.prog 70 #[.pointer (some ⟨r, 0, none⟩), .agg #[.int .i64 2, strV [], strV n, .int .i64 0], strV t] w fun x w' => x = .returned (.int .i64 (c : Nat)) ∧ Fs w0 w' wb ab g r xs jv qv jo qo d e' (N + 1) nm := by
  have h2 := h.rDo hN (.write n t) [] t ⟨hn, ht⟩ (fun _ _ h => by cases h; rfl) ht
  rw [hc] at h2
  exact h2
theorem ddo_le {o : Od} (hc : ddo d o = (d', c)) : c ≤ 25 := by
  have := ddo_codeK d o
  rw [hc] at this
  exact this
end
set_option maxHeartbeats 8000000 in
set_option maxRecDepth 100000 in
theorem files_any {w0 w : World} {wb g r : Nat} {jv qv : Value} {jo qo : Jo} {d : Dk} {N : Nat} {nm : Nm} (h : Fw w0 w wb g r jv qv jo qo d d N nm) (a : Ac) (ma : Option Addr) (mn mc : Nat) (hi : IntsAt w0 (.slice ma mn mc) a.keep) (ho : AcOk a) (hN : N + 4 ≤ 1073741824) (hnl : nm.length ≤ 4294967296) (hg : ErrorLaid w0) :
    Calls Tryz.prog 52 #[.pointer (some ⟨wb, 0, none⟩), .agg #[.int .i64 a.kind, strV a.text, .int .i64 a.n, .slice ma mn mc]] w fun e w' => e = .returned (.bool true) ∧ Fw w0 w' wb g r jv qv jo qo (fplay nm d a) (fplay nm d a) (N + 4) nm := by
  obtain ⟨kd, tx, an, keep⟩ := a
  simp only at hi ⊢
  obtain ⟨hok1, hok2, hok3, hok4, hok5⟩ := ho
  simp only at hok1 hok2 hok3 hok4 hok5
  have hs := h.enter [.int .i64 kd, strV tx, .int .i64 an, .slice ma mn mc]
  have hfl := fgn_len (n := an) hnl
  obtain ⟨m, hm⟩ : ∃ m : Int, kd % 9 = m := ⟨_, rfl⟩
  have hmc : m = 0 ∨ m = 1 ∨ m = 2 ∨ m = 3 ∨ m = 4 ∨ m = 5 ∨ m = 6 ∨ m = 7 ∨ m = 8 := by omega
  have hfp : fplay nm d ⟨kd, tx, an, keep⟩ = if m = 3 then darm d an keep else if m = 4 then dcrash d keep else if m = 5 then drevive d else if m = 7 then (ddo (ddo d (.create (fgn nm an))).1 (.write (fgn nm an) tx)).1 else if m = 8 then (ddo d (.remove (fgn nm an))).1 else d := by
    unfold fplay
    rw [← hm]
  rw [hfp]
  obtain ⟨d1, e1, ho1⟩ : ∃ d' c, ddo d (.create (fgn nm an)) = (d', c) := ⟨_, _, rfl⟩
  obtain ⟨d2, e2, ho2⟩ : ∃ d' c, ddo d1 (.write (fgn nm an) tx) = (d', c) := ⟨_, _, rfl⟩
  obtain ⟨d3, e3, ho3⟩ : ∃ d' c, ddo d (.remove (fgn nm an)) = (d', c) := ⟨_, _, rfl⟩
  simp only [ho1, ho3]
  simp only [ho2]
  have HO1 := Lib.hid ho1
  have HO2 := Lib.hid ho2
  have HO3 := Lib.hid ho3
  have HM := Lib.hid hm
  have HOK3 := Lib.hid hok3
  have HI := Lib.hid hi
  have HG := Lib.hid hg
  have HS0 := Lib.hid hs
  obtain ⟨c0, c1, c2, c3, c4, hwl⟩ := hs.leave.cells
  obtain ⟨y0, y1, y2, y3, hal⟩ := hs.acells
  clear h hi hok3 hg hfp hm hs ho1 ho2 ho3
  go_enter Tryz.func52, Tryz.ntmps52
  go_upto_region 1 with (fail)
  generalize hW1 : w.alloc (.cells #[.int .i64 kd, strV tx, .int .i64 an, .slice ma mn mc] 81) = W1 at *
  generalize w.heap.size = ab at *
  clear hW1
  have HFN := Lib.hid (wforeign_any W1 wb nm an c0 (by omega) hok4.1 hok4.2)
  have hPk := Pick_any kd 9 W1 (by omega) (by omega)
  rw [show kd % ((9 : Nat) : Int) = m from HM.out] at hPk
  have HPK := Lib.hid hPk
  clear hPk
  go_wp2_with (fail)
  refine HFN.out.mono ?_
  rintro e W2 ⟨rfl, rfl⟩
  clear HFN
  generalize fgn nm an = fn at *
  go_wp2_with (fail)
  refine HPK.out.mono ?_
  rintro e W2 ⟨rfl, rfl⟩
  clear HPK
  rcases hmc with rfl | rfl | rfl | rfl | rfl | rfl | rfl | rfl | rfl
  case inr.inr.inr.inl =>
    have HA := Lib.hid fun W (hb : Below W1.heap.size W1 W) => (HS0.out.below hb).rArm an (.slice ma mn mc) keep HI.out hok2 HOK3.out hok4.2
    go_upto_region 4 with (fail)
    refine wp_region_still_tail 8 (by kernel_rfl) (by kernel_rfl) ?_
    simp only [List.take_succ_cons, List.take_zero, List.drop_succ_cons, List.drop_zero]
    repeat still_step
    refine wpStill_nil ?_
    go_wp2_with (fail)
    refine (HA.out _ (Below.refl _ _).drew).mono ?_
    rintro e w2 ⟨rfl, h2⟩
    obtain ⟨c0, c1, c2, c3, c4, hwl⟩ := h2.leave.cells
    obtain ⟨y0, y1, y2, y3, hal⟩ := h2.acells
    have H2 := Lib.hid h2
    have HCI := Lib.hid fun W (hb : Below w2.heap.size w2 W) => copyIntsK_any W (.slice ma mn mc) keep (HI.out.below (H2.out.below hb).py.bel) (by omega)
    clear h2 HA HS0
    go_upto_region 5 with (fail)
    go_region_with (first
      | (go_at_call 45; refine (HCI.out _ (Below.refl _ _).drew).mono ?_; rintro e w3 ⟨v3, rfl, hr3, hb3⟩; have hb4 := below_undrew hb3; have hs3 := H2.out.below hb4; obtain ⟨z0, z1, z2, z3, z4, zlt⟩ := hs3.leave.cells; obtain ⟨x0, x1, x2, x3, xlt⟩ := hs3.acells; obtain ⟨va3, vc3, hv3⟩ := row_shapeK hr3; subst hv3; have H3 := Lib.hid hs3; have HR3 := Lib.hid hr3; clear hr3 hs3 hb3 hb4)
      | (go_at_call 26; refine (H3.out.dArm an keep HR3.out hok2 HOK3.out hok4.2).mono ?_; rintro e w4 ⟨rfl, h4⟩; have H4 := Lib.hid h4; clear h4))
    all_goals
      go_wp2_with (fail)
      go_ret
      exact ⟨rfl, H4.out.leave.mono (by omega)⟩
  case inr.inr.inr.inr.inl =>
    have HA := Lib.hid fun W (hb : Below W1.heap.size W1 W) => (HS0.out.below hb).rCrash (by omega) (.slice ma mn mc) keep HI.out hok2
    go_upto_region 7 with (fail)
    refine wp_region_still_tail 6 (by kernel_rfl) (by kernel_rfl) ?_
    simp only [List.take_succ_cons, List.take_zero, List.drop_succ_cons, List.drop_zero]
    repeat still_step
    refine wpStill_nil ?_
    go_wp2_with (fail)
    refine (HA.out _ (Below.refl _ _).drew).mono ?_
    rintro e w2 ⟨rfl, h2⟩
    obtain ⟨c0, c1, c2, c3, c4, hwl⟩ := h2.leave.cells
    obtain ⟨y0, y1, y2, y3, hal⟩ := h2.acells
    have H2 := Lib.hid h2
    have HCI := Lib.hid fun W (hb : Below w2.heap.size w2 W) => copyIntsK_any W (.slice ma mn mc) keep (HI.out.below (H2.out.below hb).py.bel) (by omega)
    clear h2 HA HS0
    go_upto_region 8 with (fail)
    go_region_with (first
      | (go_at_call 45; refine (HCI.out _ (Below.refl _ _).drew).mono ?_; rintro e w3 ⟨v3, rfl, hr3, hb3⟩; have hb4 := below_undrew hb3; have hs3 := H2.out.below hb4; obtain ⟨z0, z1, z2, z3, z4, zlt⟩ := hs3.leave.cells; obtain ⟨x0, x1, x2, x3, xlt⟩ := hs3.acells; obtain ⟨va3, vc3, hv3⟩ := row_shapeK hr3; subst hv3; have hcr := H2.out.dCrash hb4 (by omega) keep hr3; have HCR := Lib.hid hcr; clear hr3 hs3 hb3 hb4 hcr)
      | (go_at_call 18; refine HCR.out.mono ?_; rintro e w4 ⟨rfl, h4⟩; have H4 := Lib.hid h4; clear h4))
    all_goals
      go_wp2_with (fail)
      go_ret
      exact ⟨rfl, H4.out.leave.mono (by omega)⟩
  case inr.inr.inr.inr.inr.inl =>
    have HA := Lib.hid HS0.out.rRevive
    clear HS0
    go_wp2_with (fail)
    refine HA.out.mono ?_
    rintro e w2 ⟨rfl, h2⟩
    obtain ⟨c0, c1, c2, c3, c4, hwl⟩ := h2.leave.cells
    have HB := Lib.hid h2.dRevive
    clear h2 HA
    go_wp2_with (fail)
    refine HB.out.mono ?_
    rintro e w3 ⟨rfl, h3⟩
    have H3 := Lib.hid h3
    clear h3 HB
    go_wp2
    go_ret
    exact ⟨rfl, H3.out.leave.mono (by omega)⟩
  case inr.inr.inr.inr.inr.inr.inr.inl =>
    have HA := Lib.hid (HS0.out.rCreate (by omega) fn (by omega) HO1.out)
    clear HS0
    go_wp2_with (fail)
    refine HA.out.mono ?_
    rintro e w2 ⟨rfl, h2⟩
    obtain ⟨c0, c1, c2, c3, c4, hwl⟩ := h2.leave.cells
    obtain ⟨y0, y1, y2, y3, hal⟩ := h2.acells
    have HB := Lib.hid fun W (hb : Below w2.heap.size w2 W) => (h2.below hb).rWrite (by omega) fn tx (by omega) (by omega) HO2.out
    clear h2 HA
    go_upto_region 14 with (fail)
    refine wp_region_still_tail 8 (by kernel_rfl) (by kernel_rfl) ?_
    simp only [List.take_succ_cons, List.take_zero, List.drop_succ_cons, List.drop_zero]
    repeat still_step
    refine wpStill_nil ?_
    go_wp2_with (fail)
    refine (HB.out _ (Below.refl _ _).drew).mono ?_
    rintro e w3 ⟨rfl, h3⟩
    obtain ⟨c0, c1, c2, c3, c4, hwl⟩ := h3.leave.cells
    obtain ⟨y0, y1, y2, y3, hal⟩ := h3.acells
    have hC := h3.dCreate (by omega) fn (by omega)
    rw [HO1.out] at hC
    have HC := Lib.hid hC
    clear h3 HB hC
    go_wp2_with (fail)
    refine HC.out.mono ?_
    rintro e w4 ⟨rfl, h4⟩
    obtain ⟨c0, c1, c2, c3, c4, hwl⟩ := h4.leave.cells
    obtain ⟨y0, y1, y2, y3, hal⟩ := h4.acells
    have hD := fun W (hb : Below w4.heap.size w4 W) => (h4.below hb).dWrite (by omega) fn tx (by omega) (by omega)
    simp only [HO2.out] at hD
    have HD := Lib.hid hD
    clear h4 HC hD
    go_upto_region 16 with (fail)
    refine wp_region_still_tail 7 (by kernel_rfl) (by kernel_rfl) ?_
    simp only [List.take_succ_cons, List.take_zero, List.drop_succ_cons, List.drop_zero]
    repeat still_step
    refine wpStill_nil ?_
    go_wp2_with (fail)
    refine (HD.out _ (Below.refl _ _).drew).mono ?_
    rintro e w5 ⟨rfl, h5⟩
    have HP1 := Lib.hid (Plain_same e1 w5 (ddo_le HO1.out) (HG.out.below h5.py.bel))
    have H5 := Lib.hid h5
    clear h5 HD
    go_wp2_with (fail)
    refine HP1.out.mono ?_
    rintro e w6 ⟨rfl, hb6⟩
    have h6 := H5.out.below hb6
    have HP2 := Lib.hid (Plain_same e2 w6 (ddo_le HO2.out) (HG.out.below h6.py.bel))
    have H6 := Lib.hid h6
    clear hb6 h6 H5 HP1
    go_wp2_with (fail)
    refine HP2.out.mono ?_
    rintro e w7 ⟨rfl, hb7⟩
    have h7 := (H6.out.below hb7).leave
    have H7 := Lib.hid h7
    clear hb7 h7 H6 HP2
    go_wp2
    go_ret
    exact ⟨rfl, H7.out.mono (by omega)⟩
  case inr.inr.inr.inr.inr.inr.inr.inr =>
    have HA := Lib.hid (HS0.out.rRemove (by omega) fn (by omega) HO3.out)
    clear HS0
    go_wp2_with (fail)
    refine HA.out.mono ?_
    rintro e w2 ⟨rfl, h2⟩
    obtain ⟨c0, c1, c2, c3, c4, hwl⟩ := h2.leave.cells
    have hC := h2.dRemove (by omega) fn (by omega)
    rw [HO3.out] at hC
    have HC := Lib.hid hC
    clear h2 HA hC
    go_wp2_with (fail)
    refine HC.out.mono ?_
    rintro e w3 ⟨rfl, h3⟩
    have HP1 := Lib.hid (Plain_same e3 w3 (ddo_le HO3.out) (HG.out.below h3.py.bel))
    have H3 := Lib.hid h3
    clear h3 HC
    go_wp2_with (fail)
    refine HP1.out.mono ?_
    rintro e w4 ⟨rfl, hb4⟩
    have h4 := (H3.out.below hb4).leave
    have H4 := Lib.hid h4
    clear hb4 h4 H3 HP1
    go_wp2
    go_ret
    exact ⟨rfl, H4.out.mono (by omega)⟩
  all_goals
    have h9 := HS0.out.leave
    have H9 := Lib.hid h9
    clear h9 HS0
    go_wp2
    go_ret
    exact ⟨rfl, H9.out.mono (by omega)⟩
end Go.Proofs.YtfgpigblnkanpaaGreatDoor
