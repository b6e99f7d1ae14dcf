/- The walks of a disk's small parts: which names may be, which files are there, what an operation does to a table. -/
import Derived.Test.YtfgpigblnkanpaaGreatDi
import Derived.Test.YtfgpigblnkanpaaGreatB
import Derived.RegionTactic
import Derived.WalkSpells
import Derived.WalkLawsBesides
import Derived.BigQuiet
import Derived.IntWalk
import Derived.Shelf.Abstract
namespace Go.Proofs.YtfgpigblnkanpaaGreat
open Go.RowKit Go.Maps Go.Shelf

theorem grown_refl (w : World) (r : Option Nat) : w.grownBy w r := ⟨rfl, rfl, rfl, Nat.le_refl _, fun _ _ _ => rfl⟩
theorem grown_trans {w w1 w2 : World} {r : Option Nat} (h : w.grownBy w1 r) (h2 : w1.grownBy w2 r) : w.grownBy w2 r :=
  ⟨h2.os.trans h.os, h2.tape.trans h.tape, h2.output.trans h.output, Nat.le_trans h.size h2.size, fun k hk hne => (h2.block k (Nat.lt_of_lt_of_le hk h.size) hne).trans (h.block k hk hne)⟩
/-- The number of what is wrong with a name. -/
def rightNo (n : Nm) : Nat := if badName n = true then 21 else 0
theorem rightNo_nil : rightNo [] = 21 := rfl
theorem rightNo_long {n : Nm} (h : 200 < n.length) : rightNo n = 21 := by unfold rightNo; rw [if_pos (by simp [badName, h])]
theorem rightNo_ok {n : Nm} (h : ¬ 200 < n.length) (h0 : n ≠ []) : rightNo n = 0 := by unfold rightNo; rw [if_neg (by simp [badName, h, h0])]
theorem toList_str (l : List UInt8) : (str l).toList = l := by rw [ByteArray.toList_eq]; rfl

set_option maxHeartbeats 1000000 in
set_option maxRecDepth 100000 in
theorem dkRight_any (n : Nm) (w : World) (hn : n.length ≤ 9223372036854775807) : Calls Tryz.prog 27 #[strV n] w fun e w' => e = .returned (errV (rightNo n)) ∧ w = w' := by
  have hz := str_size n
  by_cases h0 : n = []
  · subst h0
    have q1 : (str []).toList = [] := toList_str []
    have q2 : (str []).toList.isEmpty = true := by rw [q1]; rfl
    go_enter Tryz.func27, Tryz.ntmps27
    go_wp2
    go_ret
    exact ⟨rfl, rfl⟩
  · have q2 : (str n).toList.isEmpty = false := by
      rw [toList_str]
      cases n with
      | nil => exact absurd rfl h0
      | cons a l => rfl
    by_cases h1 : 200 < n.length
    · have HB := Lib.hid (rightNo_long h1)
      have H0 := Lib.hid h0
      clear h0
      go_enter Tryz.func27, Tryz.ntmps27
      go_wp2
      go_ret
      exact ⟨by rw [HB.out]; rfl, rfl⟩
    · have HB := Lib.hid (rightNo_ok h1 h0)
      have H0 := Lib.hid h0
      clear h0
      go_enter Tryz.func27, Tryz.ntmps27
      go_wp2
      go_ret
      exact ⟨by rw [HB.out]; rfl, rfl⟩

theorem DiskIn.cells {w : World} {g : Nat} {L : Lay} {d : Dk} {N : Nat} (h : DiskIn w g L d N) : w.cell? ⟨g, 0, none⟩ = some (.bool d.off) ∧ w.cell? ⟨g, 1, none⟩ = some (.int .i64 d.room) ∧ w.cell? ⟨g, 2, none⟩ = some (.map (some L.bn)) ∧ w.cell? ⟨g, 3, none⟩ = some (.map (some L.bs)) ∧ w.cell? ⟨g, 4, none⟩ = some L.vp ∧ w.cell? ⟨g, 5, none⟩ = some (.int .i64 d.armed) ∧ w.cell? ⟨g, 6, none⟩ = some L.vf :=
  ⟨h.blk.cell 0, h.blk.cell 1, h.blk.cell 2, h.blk.cell 3, h.blk.cell 4, h.blk.cell 5, h.blk.cell 6⟩
theorem DiskIn.fcells {w : World} {g : Nat} {L : Lay} {d : Dk} {N : Nat} (h : DiskIn w g L d N) {i : Nat} (hi : i < d.files.length) : w.cell? ⟨fb L.F i, 0, none⟩ = some (strV (fat d.files i).data) ∧ w.cell? ⟨fb L.F i, 1, none⟩ = some (.int .i64 (fat d.files i).safe) :=
  ⟨(h.files i hi).cell 0, (h.files i hi).cell 1⟩
/-- The number of what a name that leads nowhere is refused by. -/
def thereNo (t : Tb) (n : Nm) : Nat := if (tget t n).isSome = false then 18 else 0
theorem thereNo_none {t : Tb} {n : Nm} (h : tget t n = none) : thereNo t n = 18 := by unfold thereNo; rw [h]; rfl
theorem thereNo_some {t : Tb} {n : Nm} {f : Nat} (h : tget t n = some f) : thereNo t n = 0 := by unfold thereNo; rw [h]; rfl
theorem run_neq_pnil (w : World) : (binOp .neq 63 (.pointer none) (.pointer none)).run Tryz.prog w = .ok (.bool false) w := by kernel_rfl
theorem run_neq_psome (w : World) (a : Addr) : (binOp .neq 63 (.pointer (some a)) (.pointer none)).run Tryz.prog w = .ok (.bool true) w := by kernel_rfl
theorem run_eql_pnil (w : World) : (binOp .eql 63 (.pointer none) (.pointer none)).run Tryz.prog w = .ok (.bool true) w := by kernel_rfl

set_option maxHeartbeats 1000000 in
set_option maxRecDepth 100000 in
theorem dkthere_any (w : World) (g : Nat) (L : Lay) (d : Dk) (N : Nat) (n : Nm) (hn : n.length ≤ 9223372036854775807) (h : DiskIn w g L d N) (hk : DkOk d) : Calls Tryz.prog 24 #[.pointer (some ⟨g, 0, none⟩), strV n] w fun e w' => e = .returned (errV (thereNo d.now n)) ∧ w = w' := by
  obtain ⟨c0, c1, c2, c3, c4, c5, c6⟩ := h.cells
  have hl := h.now.look hk.now n hn
  cases hg : tget d.now n with
  | none =>
    rw [hg] at hl
    have HN := Lib.hid (thereNo_none hg)
    have HG := Lib.hid hg
    clear hg
    unfold fileV at hl
    go_enter Tryz.func24, Tryz.ntmps24
    go_wp2
    go_ret
    exact ⟨by rw [HN.out]; rfl, rfl⟩
  | some f =>
    rw [hg] at hl
    have HN := Lib.hid (thereNo_some hg)
    have HG := Lib.hid hg
    clear hg
    unfold fileV at hl
    go_enter Tryz.func24, Tryz.ntmps24
    go_wp2
    go_ret
    exact ⟨by rw [HN.out]; rfl, rfl⟩

/-! ### the operations on a table -/
set_option maxHeartbeats 1000000 in
set_option maxRecDepth 100000 in
theorem dkCreateP_any (w : World) (b : Nat) (t : Tb) (F : List Nat) (N : Nat) (n : Nm) (f x y : Nat) (h : MapIs w b t F N) (hn : n.length ≤ 9223372036854775807) (hN : N < 9223372036854775807) (hx : Blk w x [.pointer (some ⟨fb F f, 0, none⟩)] 63) (hy : Blk w y [strV n] 9) :
    Calls Tryz.prog 30 #[.map (some b), .pointer (some ⟨x, 0, none⟩), .pointer (some ⟨y, 0, none⟩)] w fun e w' => e = .returned (.tuple #[]) ∧ MapIs w' b (tins t n f) F (N + 1) ∧ w.grownBy w' (some b) := by
  have x0 := hx.cell 0
  have y0 := hy.cell 0
  simp only [List.getElem?_cons_zero] at x0 y0
  obtain ⟨w', hrun, h1, h2⟩ := h.put (by unfold maxLen; omega) n hn f
  have H1 := Lib.hid h1
  have H2 := Lib.hid h2
  clear h1 h2 hx hy
  go_enter Tryz.func30, Tryz.ntmps30
  go_wp2
  go_end0
  exact ⟨rfl, H1.out, H2.out⟩
set_option maxHeartbeats 1000000 in
set_option maxRecDepth 100000 in
theorem dkRemoveP_any (w : World) (b : Nat) (t : Tb) (F : List Nat) (N : Nat) (n : Nm) (y : Nat) (h : MapIs w b t F N) (hn : n.length ≤ 9223372036854775807) (hy : Blk w y [strV n] 9) :
    Calls Tryz.prog 54 #[.map (some b), .pointer (some ⟨y, 0, none⟩)] w fun e w' => e = .returned (.tuple #[]) ∧ MapIs w' b (tout t n) F N ∧ w.grownBy w' (some b) := by
  have y0 := hy.cell 0
  simp only [List.getElem?_cons_zero] at y0
  obtain ⟨w', hrun, h1, h2⟩ := h.cut n hn 0
  have H1 := Lib.hid h1
  have H2 := Lib.hid h2
  clear hy h1 h2
  go_enter Tryz.func54, Tryz.ntmps54
  go_wp2
  go_end0
  exact ⟨rfl, H1.out, H2.out⟩
set_option maxHeartbeats 1000000 in
set_option maxRecDepth 100000 in
theorem dkRenameP_any (w : World) (b : Nat) (t : Tb) (F : List Nat) (N : Nat) (o n : Nm) (x y : Nat) (h : MapIs w b t F N) (ht : Rise t) (ho : o.length ≤ 9223372036854775807) (hn : n.length ≤ 9223372036854775807) (hN : N < 9223372036854775807) (hx : Blk w x [strV o] 9) (hy : Blk w y [strV n] 9) :
    Calls Tryz.prog 75 #[.map (some b), .pointer (some ⟨x, 0, none⟩), .pointer (some ⟨y, 0, none⟩)] w fun e w' => e = .returned (.tuple #[]) ∧ MapIs w' b (tdone t (.rn o n)) F (N + 1) ∧ w.grownBy w' (some b) := by
  have x0 := hx.cell 0
  have y0 := hy.cell 0
  simp only [List.getElem?_cons_zero] at x0 y0
  have hl := h.look ht o ho
  have hnil := run_neq_pnil
  have hsome := run_neq_psome
  have etd : ∀ r, tget t o = r → tdone t (.rn o n) = (match r with | none => t | some f => tins (tout t o) n f) := fun r hr => by rw [← hr]; rfl
  cases hg : tget t o with
  | none =>
    rw [hg] at hl
    unfold fileV at hl
    rw [etd none hg]
    have H1 := Lib.hid (h.mono (Nat.le_succ N))
    clear h etd hg hx hy
    go_enter Tryz.func75, Tryz.ntmps75
    go_wp2
    go_end0
    exact ⟨rfl, H1.out, grown_refl _ _⟩
  | some f =>
    rw [hg] at hl
    unfold fileV at hl
    rw [etd (some f) hg]
    obtain ⟨w1, hrun, h1, h2⟩ := h.cut o ho 0
    have hbx : x ≠ b := by
      intro e
      obtain ⟨es, clock, hb⟩ := h.obj
      unfold Blk at hx
      rw [e, hb] at hx
      simp at hx
    have hby : y ≠ b := by
      intro e
      obtain ⟨es, clock, hb⟩ := h.obj
      unfold Blk at hy
      rw [e, hb] at hy
      simp at hy
    have y1 := (hy.same (h2.block y hy.lt (fun e => hby (by simpa using e)))).cell 0
    simp only [List.getElem?_cons_zero] at y1
    obtain ⟨w2, hrun2, h3, h4⟩ := h1.put (by unfold maxLen; omega) n hn f
    have H1 := Lib.hid h3
    have H2 := Lib.hid (grown_trans h2 h4)
    clear h etd hg hx hy h1 h2 h3 h4 hbx hby
    go_enter Tryz.func75, Tryz.ntmps75
    go_wp2
    go_end0
    exact ⟨rfl, H1.out, H2.out⟩

/-- A function value that does an operation to a table. -/
def PnCall (w : World) (F : List Nat) (p : Pn) (v : Value) : Prop :=
  ∃ fr cr, v = .func (.func fr) #[] cr ∧ (∀ (args : Array Value) (w : World), (callFunc fr args).run Tryz.prog w = .ok (.enter fr args) w) ∧
    ∀ b t N, MapIs w b t F N → Rise t → N < 9223372036854775807 → Calls Tryz.prog fr (#[.map (some b)] ++ cr) w fun e w' => e = .returned (.tuple #[]) ∧ MapIs w' b (tdone t p) F (N + 1) ∧ w.grownBy w' (some b)
theorem PnAt.call {w : World} {F X : List Nat} {p : Pn} {v : Value} (h : PnAt w F X p v) (hp : pnOk p) : PnCall w F p v := by
  cases p with
  | cr n f =>
    obtain ⟨b, c, rfl, hb, hc, h1, h2⟩ := h
    exact ⟨_, _, rfl, enters_of Tryz.func30 (by kernel_rfl) rfl, fun m t N hm ht hN => dkCreateP_any w m t F N n f b c hm hp hN h1 h2⟩
  | rn o n =>
    obtain ⟨b, c, rfl, hb, hc, h1, h2⟩ := h
    exact ⟨_, _, rfl, enters_of Tryz.func75 (by kernel_rfl) rfl, fun m t N hm ht hN => dkRenameP_any w m t F N o n b c hm ht hp.1 hp.2 hN h1 h2⟩
  | rm n =>
    obtain ⟨c, rfl, hc, h2⟩ := h
    exact ⟨_, _, rfl, enters_of Tryz.func54 (by kernel_rfl) rfl, fun m t N hm ht hN => (dkRemoveP_any w m t F N n c hm hp h2).mono fun e w' ⟨he, hm', hg⟩ => ⟨he, hm'.mono (Nat.le_succ _), hg⟩⟩
end Go.Proofs.YtfgpigblnkanpaaGreat
