/- The document's disk: its operations in one word each; an operation as it is asked of the document. The document's journal: operations of its disk, one behind the other. The document's journal: what right does, plainly. -/
import Derived.Test.YtfgpigblnkanpaaGreatDoorHN
import Derived.StillTailTactics
import Derived.BigQuiet
import Derived.Test.YtfgpigblnkanpaaGreatDoorHI
namespace Go.Proofs.YtfgpigblnkanpaaGreatDoor
open Go.RowKit Go.Maps Go.Shelf
set_option linter.unusedVariables false
set_option linter.unusedSimpArgs false

theorem rDo_rd {w : World} {A : List Nat} {g : Nat} {d : Dk} {N : Nat} (h : Rd2 w A g d N) (hN : N + 1 ≤ 1073741824) (o : Od) (nm : Nm) (tx : List UInt8) (ho : odSmall o) (htx : ∀ n s, o = .write n s → tx = s) (htl : tx.length ≤ 140737488355328) :
    Calls Tryz.prog 70 #[.pointer (some ⟨g, 0, none⟩), .agg (odCells nm o).toArray, strV tx] w (RdDo g d o N A w) := by
  cases o with
  | create n => exact rDo_create w A g d N n tx h hN ho htl
  | write n s =>
    obtain rfl := htx n s rfl
    exact rDo_write w A g d N n tx h hN ho htl
  | sync n => exact rDo_sync w A g d N n tx h hN ho htl
  | rename o n => exact rDo_rename w A g d N o n tx h hN ho htl
  | remove n => exact rDo_remove w A g d N n tx h hN ho htl
  | flush => exact rDo_flush w A g d N nm tx h hN ho htl
theorem rCrash_rd {w : World} {A : List Nat} {g : Nat} {d : Dk} {N : Nat} (h : Rd2 w A g d N) (hN : N ≤ 1073741824) (av : Value) (keep : List Int) (hi : IntsAt w av keep) (hl : keep.length ≤ 4294967296) (ha : ∀ j, usesOf av keep = some j → j ∉ A ∧ j < w.heap.size) :
    Calls Tryz.prog 77 #[.pointer (some ⟨g, 0, none⟩), av] w fun e w' => e = .returned (.tuple #[]) ∧ Rd2To g (dcrash d keep) N A w w' := by
  obtain ⟨fv, nv, sv, pv, kv, h1, h2, h3, h4⟩ := h
  by_cases hoff : d.off = true
  · have e : dcrash d keep = d := by unfold dcrash; rw [if_pos hoff]
    rw [e]
    refine (rCrash_off w g fv nv sv pv kv av d h1 hoff).mono fun e w' ⟨he, hw⟩ => ⟨he, ?_⟩
    rw [hw]
    exact ⟨A, ⟨fv, nv, sv, pv, kv, h1, h2, h3, h4⟩, Stp.refl _ _⟩
  · have e : dcrash d keep = dfail d keep := by unfold dcrash; rw [if_neg hoff]
    rw [e]
    refine (rCrash_any w g fv nv sv pv kv av d keep N h1 h2.ok h2.bd hN hi hl (fun j hj => ⟨fun e => (ha j hj).1 (h3 j (rfoot_mem.2 (Or.inl e))), fun e => (ha j hj).1 (h3 j (rfoot_mem.2 (by simp [e]))), (ha j hj).2⟩) (by simpa using hoff)).mono fun e w' hp => ⟨hp.1, ?_⟩
    exact (RFailPost.mid (A := A) (w := w) (nv := nv) (pv := pv) (kv := kv) ((Stp.refl (rfoot g fv nv sv pv kv) w).wide h3) (fun k hk => h4 k (h3 k hk)) hp).to (dfail_refN h2 keep)
theorem rList_rd {w : World} {A : List Nat} {g : Nat} {d : Dk} {N : Nat} (h : Rd2 w A g d N) (hN : N ≤ 1073741824) (head : List UInt8) :
    Calls Tryz.prog 73 #[.pointer (some ⟨g, 0, none⟩), strV head] w fun e w' => ∃ v', e = .returned (.tuple #[v', .int .i64 (if d.off = true then 20 else 0)]) ∧ w'.ownsRow w.heap.size 9 1 v' (dlist d head).length ((dlist d head).map strV) ∧ Below w.heap.size w w' := by
  obtain ⟨fv, nv, sv, pv, kv, h1, h2, h3, h4⟩ := h
  exact rList_any w g fv nv sv pv kv d head h1 (by have := h2.bd.now; omega)
/-! ### an operation as it is asked -/
theorem infoOpS : (Tryz.prog.info? 122).map (fun i => i.size) = some 4 := by kernel_rfl
set_option maxRecDepth 100000 in
theorem named_results (tmps : Array Value) (w : World) (g : Nat) (x y z u : Value) (tt : TypeId)
    (hp : tmps.getD 2 undef = .pointer (some ⟨g, 0, none⟩)) (hg : Blk w g [x, y, z, u] tt) :
    (results Tryz.f71 tmps).run Tryz.prog w = .ok (.agg #[x, y, z, u]) w := by
  have hp' : tmps[2]?.getD undef = .pointer (some ⟨g, 0, none⟩) := by simpa using hp
  have hl : (loadVar 122 ⟨g, 0, none⟩).run Tryz.prog w = .ok (.agg #[x, y, z, u]) w := run_loadVar_row w g tt _ #[x, y, z, u] (0, 0) _ hg Tryz.underlying122 rfl infoOpS
  simp [results, Tryz.results71, hp', asAddr, hl]
set_option maxHeartbeats 2000000 in
set_option maxRecDepth 100000 in
theorem named_any (w : World) (s : Sp) (kv : Value) (hkv : ∃ a n c, kv = .slice a n c) (h1 : 1 ≤ s.do_) (h6 : s.do_ ≤ 6) :
    Calls Tryz.prog 71 #[.agg (s.cells kv).toArray] w fun e w' => e = .returned (.agg (odCells s.name (odOf s)).toArray) ∧ Below w.heap.size w w' := by
  obtain ⟨ka, kn, kc, rfl⟩ := hkv
  obtain ⟨do_, who, name, data, n, keep⟩ := s
  have hb := (Blk.new w ([Value.int .i64 do_, .int .i64 who, strV name, strV data, .int .i64 n, .slice ka kn kc]) 36).alloc (.cells #[.int .i64 0, strV [], strV [], .int .i64 0] 122)
  have k0 := hb.cell 0
  have k2 := hb.cell 2
  have k3 := hb.cell 3
  simp only [List.getElem?_cons_zero, List.getElem?_cons_succ] at k0 k2 k3
  unfold Sp.cells
  simp only at h1 h6 ⊢
  clear hb
  by_cases e4 : do_ = 4
  · subst e4
    have ho : odOf ⟨4, who, name, data, n, keep⟩ = .rename name data := by unfold odOf; simp
    rw [ho]
    clear ho
    go_enter Tryz.func71, Tryz.ntmps71
    go_wp2
    have hb2 := Blk.new (w.alloc (.cells ([Value.int .i64 4, .int .i64 who, strV name, strV data, .int .i64 n, .slice ka kn kc]).toArray 36)) [.int .i64 4, strV name, strV data, .int .i64 0] 122
    rw [World.size_alloc] at hb2
    exact bodyPost_ret (v := .agg #[.int .i64 4, strV name, strV data, .int .i64 0]) (named_results _ _ (w.heap.size + 1) _ _ _ _ 122 rfl hb2) rfl ⟨rfl, ((Below.refl _ w).alloc (Nat.le_refl _) _).alloc (by simp) _⟩
  · have q4 : (do_ == 4) = false := by simpa using e4
    have ho : (odCells name (odOf ⟨do_, who, name, data, n, keep⟩)) = [.int .i64 do_, strV [], strV name, .int .i64 0] := by
      have : do_ = 1 ∨ do_ = 2 ∨ do_ = 3 ∨ do_ = 5 ∨ do_ = 6 := by omega
      rcases this with rfl | rfl | rfl | rfl | rfl <;> rfl
    rw [ho]
    clear ho
    go_enter Tryz.func71, Tryz.ntmps71
    go_wp2
    have hb2 := Blk.new (w.alloc (.cells ([Value.int .i64 do_, .int .i64 who, strV name, strV data, .int .i64 n, .slice ka kn kc]).toArray 36)) [.int .i64 do_, strV [], strV name, .int .i64 0] 122
    rw [World.size_alloc] at hb2
    exact bodyPost_ret (v := .agg #[.int .i64 do_, strV [], strV name, .int .i64 0]) (named_results _ _ (w.heap.size + 1) _ _ _ _ 122 rfl hb2) rfl ⟨rfl, ((Below.refl _ w).alloc (Nat.le_refl _) _).alloc (by simp) _⟩
end Go.Proofs.YtfgpigblnkanpaaGreatDoor

namespace Go.Proofs.YtfgpigblnkanpaaGreatDoor
open Go.RowKit Go.Maps Go.Shelf
set_option linter.unusedVariables false
set_option linter.unusedSimpArgs false

def odKind : Od → Int
  | .create _ => 1
  | .write _ _ => 2
  | .sync _ => 3
  | .rename _ _ => 4
  | .remove _ => 5
  | .flush => 6
def odOld : Od → Nm
  | .rename o _ => o
  | _ => []
def odNmQ : Od → Nm
  | .create n => n
  | .write n _ => n
  | .sync n => n
  | .rename _ n => n
  | .remove n => n
  | .flush => []
theorem odCells_eq (o : Od) : odCells [] o = [.int .i64 (odKind o), strV (odOld o), strV (odNmQ o), .int .i64 0] := by cases o <;> rfl
/-- Steps that are read. -/
def StepsQ (w : World) (b : Nat) (os : List Od) : Prop := ∀ i o, os[i]? = some o → w.cell? ⟨b, i * 4, none⟩ = some (.int .i64 (odKind o)) ∧ w.cell? ⟨b, i * 4 + 1, none⟩ = some (strV (odOld o)) ∧ w.cell? ⟨b, i * 4 + 2, none⟩ = some (strV (odNmQ o)) ∧ w.cell? ⟨b, i * 4 + 3, none⟩ = some (strV (odText o))
theorem StepsQ.same {w w' : World} {b : Nat} {os : List Od} (h : StepsQ w b os) (hs : w'.heap[b]? = w.heap[b]?) : StepsQ w' b os := by
  have hc : ∀ k, w'.cell? ⟨b, k, none⟩ = w.cell? ⟨b, k, none⟩ := fun k => World.cell?_of_block hs
  exact fun i o ho => by
    obtain ⟨h0, h1, h2, h3⟩ := h i o ho
    exact ⟨(hc _).trans h0, (hc _).trans h1, (hc _).trans h2, (hc _).trans h3⟩
/-- Operations up to the first that is refused: the disk, its error, its kind. -/
def jrun : Dk → List Od → Dk × Nat × Int
  | d, [] => (d, 0, 0)
  | d, o :: l => if (ddo d o).2 ≠ 0 then ((ddo d o).1, (ddo d o).2, odKind o) else jrun (ddo d o).1 l
/-- Between two operations. -/
def RunSt (w wr : World) (A : List Nat) (g : Nat) (d : Dk) (N : Nat) (os : List Od) (k : Nat) : Prop := ∃ dk A', jrun d os = jrun dk (os.drop k) ∧ Rd2 wr A' g dk (N + k) ∧ Stp A A' w wr
set_option maxHeartbeats 4000000 in
set_option maxRecDepth 100000 in
theorem qrun_any {w : World} {A : List Nat} {g : Nat} {d : Dk} {N : Nat} (h : Rd2 w A g d N) (os : List Od) (b cap : Nat) (hq : StepsQ w b os) (hb : b ∉ A) (hlt : b < w.heap.size) (hN : N + os.length ≤ 1073741824) (hs : ∀ o ∈ os, odSmall o) (ht : ∀ o ∈ os, (odText o).length ≤ 140737488355328) :
    Calls Tryz.prog 137 #[.pointer (some ⟨g, 0, none⟩), .slice (some ⟨b, 0, none⟩) os.length cap] w fun e w' => e = .returned (.tuple #[.int .i64 (jrun d os).2.1, .int .i64 (jrun d os).2.2]) ∧ Rd2To g (jrun d os).1 (N + os.length) A w w' := by
  have hst : RunSt w w A g d N os 0 := ⟨d, A, rfl, h, Stp.refl _ _⟩
  have HST := Lib.hid hst
  have HQ := Lib.hid hq
  have HS := Lib.hid hs
  have HT := Lib.hid ht
  have HB := Lib.hid hb
  have HW := Lib.hid hlt
  clear hst hq hs ht h hb hlt
  go_enter Tryz.func137, Tryz.ntmps137
  go_wp2_with (fail)
  go_loopw [6] (fun iv wr => ∃ k : Nat, iv = .int .i64 k ∧ k ≤ os.length ∧ Hid (RunSt w wr A g d N os k)) (fun iv _ => os.length - (intOf iv).toNat)
  case atStart => exact ⟨0, rfl, Nat.zero_le _, HST.out⟩
  case round =>
    clear HST
    obtain ⟨k, rfl, hk, hst⟩ := hrel
    obtain ⟨dk, A', hj, hR, hS⟩ := hst.out
    by_cases hlt : k < os.length
    · obtain ⟨o, ho⟩ : ∃ x, os[k]? = some x := ⟨_, List.getElem?_eq_getElem hlt⟩
      have hd : os.drop k = o :: os.drop (k + 1) := by
        rw [List.drop_eq_getElem_cons hlt]
        congr 1
        rw [List.getElem?_eq_getElem hlt] at ho
        exact Option.some.inj ho
      rw [hd, jrun] at hj
      have hnA : b ∉ A' := fun hm => by
        rcases hS.inn b hm with h1 | h1
        · exact HB.out h1
        · have := HW.out; omega
      have hbl : b < wr.heap.size := Nat.lt_of_lt_of_le HW.out hS.size
      obtain ⟨c0, c1, c2, c3⟩ := (HQ.out.same (hS.block b HW.out HB.out)) k o ho
      have hom := List.mem_of_getElem? ho
      have hDo := rDo_rd (w := wr.drew) (A := A') (hR.below (Below.refl _ _).drew) (by omega) o [] (odText o) (HS.out o hom) (fun n s e => by subst e; rfl) (HT.out o hom)
      rw [odCells_eq] at hDo
      have ik0 : (0 : Int) ≤ (k : Int) := by omega
      have ik1 : (k : Int) < (os.length : Int) := by omega
      have HDO := Lib.hid hDo
      have HJ := Lib.hid hj
      have HSS := Lib.hid hS
      have HNA := Lib.hid hnA
      clear hst hj hR hS ho hd hnA hom hDo hlt
      go_upto_region 4 with (fail)
      refine wp_region_still_tail 22 (by kernel_rfl) (by kernel_rfl) ?_
      simp only [List.take_succ_cons, List.take_zero, List.drop_succ_cons, List.drop_zero]
      repeat still_step
      refine wpStill_nil ?_
      go_wp2_with (fail)
      refine HDO.out.mono ?_
      rintro e w1 ⟨rfl, A2, h2, hs2⟩
      have hs02 : Stp A A2 w w1 := HSS.out.trans ((Stp.of_below (A := A') (B := A') (Below.refl _ wr).drew fun k hk => Or.inl hk).trans hs2)
      have c0' : w1.cell? ⟨b, k * 4, none⟩ = some (.int .i64 (odKind o)) := (World.cell?_of_block (hs2.block b hbl HNA.out)).trans c0
      generalize (ddo dk o).2 = n at *
      generalize (ddo dk o).1 = d2 at *
      by_cases hn : n = 0
      · subst hn
        have hst : RunSt w w1 A g d N os (k + 1) := ⟨d2, A2, by rw [HJ.out, if_neg (by simp)], h2.mono (by omega), hs02⟩
        have HST := Lib.hid hst
        clear hst h2 hs2 hs02 HDO HJ HSS
        go_wp2
        go_roundw
        case rel => exact ⟨k + 1, by go_num, by omega, HST.out⟩
        case measure => simp [intOf]; omega
      · have hq : ((n : Int) != 0) = true := by simp; omega
        have hfin : jrun d os = (d2, n, odKind o) := by rw [HJ.out, if_pos hn]
        have HF := Lib.hid hfin
        have H2 := Lib.hid (h2.mono (show N + k + 1 ≤ N + os.length by omega))
        have HS2 := Lib.hid hs02
        clear hfin h2 hs2 hs02 HDO HJ HSS hn
        go_wp2_with (fail)
        go_quiet (fail)
        go_wp2
        go_ret2
        rw [HF.out]
        exact ⟨rfl, A2, H2.out.below (below_drewN (Below.refl _ _) _), HS2.out.trans (Stp.of_below (below_drewN (Below.refl _ _) _) fun k hk => Or.inl hk)⟩
    · obtain rfl : k = os.length := by omega
      rw [List.drop_length, jrun] at hj
      have HJ := Lib.hid hj
      have HR := Lib.hid hR
      have HSS := Lib.hid hS
      clear hst hj hR hS
      go_wp2
      go_ret2
      rw [HJ.out]
      exact ⟨rfl, A', HR.out, HSS.out⟩
end Go.Proofs.YtfgpigblnkanpaaGreatDoor

namespace Go.Proofs.YtfgpigblnkanpaaGreatDoor
set_option linter.unusedVariables false
set_option linter.unusedSimpArgs false

/-- The file has its beginning alone. -/
def jr1 (d : Dk) (nm : Nm) : Jb :=
  if (dread d nm).2 = 18 then ⟨(ddo d (.create nm)).1, [], (ddo d (.create nm)).2⟩
  else if (dread d nm).2 = 0 then
    (if (jbegin (dread d nm).1).2 < (dread d nm).1.length then ⟨(jcut d nm ((dread d nm).1.take (jbegin (dread d nm).1).2)).1, (jbegin (dread d nm).1).1, (jcut d nm ((dread d nm).1.take (jbegin (dread d nm).1).2)).2⟩
     else ⟨d, (jbegin (dread d nm).1).1, 0⟩)
  else ⟨d, [], (dread d nm).2⟩
/-- The hand is gone besides. -/
def jright (d : Dk) (nm : Nm) : Jb :=
  if (dread d (jhandN nm)).2 = 0 then
    (if (ddo d (.remove (jhandN nm))).2 ≠ 0 then ⟨(ddo d (.remove (jhandN nm))).1, [], (ddo d (.remove (jhandN nm))).2⟩
     else if (ddo (ddo d (.remove (jhandN nm))).1 .flush).2 ≠ 0 then ⟨(ddo (ddo d (.remove (jhandN nm))).1 .flush).1, [], (ddo (ddo d (.remove (jhandN nm))).1 .flush).2⟩
     else jr1 (ddo (ddo d (.remove (jhandN nm))).1 .flush).1 nm)
  else jr1 d nm
def jthen (q : Jb) (nm : Nm) : Jb := if q.e ≠ 0 then ⟨q.d, [], q.e⟩ else jrest q.d nm q.l
theorem jfill_then (d : Dk) (nm : Nm) : jfill d nm = jthen (jr1 d nm) nm := by
  unfold jfill jr1 jthen
  split
  · rfl
  · split
    · split
      · rfl
      · rw [if_neg (by simp)]
    · rename_i h1 h2
      rfl
theorem jstart_then (d : Dk) (nm : Nm) : jstart d nm = jthen (jright d nm) nm := by
  unfold jstart jright
  split
  · split
    · rename_i h; unfold jthen; rw [if_pos h]
    · split
      · rename_i h; unfold jthen; rw [if_pos h]
      · exact jfill_then _ _
  · exact jfill_then _ _
theorem ddo_not19 (d : Dk) (o : Od) (h : ∀ n s, o ≠ .write n s) : (ddo d o).2 ≠ 19 := by
  have hr : drefused d o ≠ 19 := by
    cases o with
    | write n s => exact absurd rfl (h n s)
    | _ => simp only [drefused] <;> (repeat' split) <;> omega
  unfold ddo
  split
  · simp
  · split
    · exact hr
    · split <;> simp
/-- The cut, as operations one behind the other. -/
def jcutL (nm : Nm) (s : List UInt8) : List Od := [.create (jhandN nm), .write (jhandN nm) s, .sync (jhandN nm), .rename (jhandN nm) nm]
theorem jcut_run (d : Dk) (nm : Nm) (s : List UInt8) : jcut d nm s = (if (jrun d (jcutL nm s)).2.1 = 19 ∧ (jrun d (jcutL nm s)).2.2 = 2 then jclean (jrun d (jcutL nm s)).1 nm 19 else (jrun d (jcutL nm s)).1, (jrun d (jcutL nm s)).2.1) := by
  have c1 := ddo_not19 d (.create (jhandN nm)) (by intro n s h; cases h)
  have c3 := ddo_not19 (ddo (ddo d (.create (jhandN nm))).1 (.write (jhandN nm) s)).1 (.sync (jhandN nm)) (by intro n s h; cases h)
  have c4 := ddo_not19 (ddo (ddo (ddo d (.create (jhandN nm))).1 (.write (jhandN nm) s)).1 (.sync (jhandN nm))).1 (.rename (jhandN nm) nm) (by intro n s h; cases h)
  unfold jcut jcutL
  simp only [jrun]
  by_cases h1 : (ddo d (.create (jhandN nm))).2 = 0
  · by_cases h2 : (ddo (ddo d (.create (jhandN nm))).1 (.write (jhandN nm) s)).2 = 0
    · by_cases h3 : (ddo (ddo (ddo d (.create (jhandN nm))).1 (.write (jhandN nm) s)).1 (.sync (jhandN nm))).2 = 0
      · by_cases h4 : (ddo (ddo (ddo (ddo d (.create (jhandN nm))).1 (.write (jhandN nm) s)).1 (.sync (jhandN nm))).1 (.rename (jhandN nm) nm)).2 = 0
        · simp [jclean, h1, h2, h3, h4]
        · simp [jclean, h1, h2, h3, h4, c4]
      · simp [jclean, h1, h2, h3, c3]
    · by_cases h19 : (ddo (ddo d (.create (jhandN nm))).1 (.write (jhandN nm) s)).2 = 19
      · simp [jclean, h1, h2, h19, odKind]
      · simp [jclean, h1, h2, h19]
  · simp [h1, c1]
end Go.Proofs.YtfgpigblnkanpaaGreatDoor
