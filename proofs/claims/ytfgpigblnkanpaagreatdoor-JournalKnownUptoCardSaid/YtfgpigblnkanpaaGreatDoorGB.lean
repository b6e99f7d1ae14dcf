/- The walks of a disk's small parts: which names may be, which files are there, what an operation does to a table. The walk of an operation on names: the table of now, and what waits. The walks of what an operation of a disk is refused by: all but Write's. The walk of Used: a sum over a table, in whatever order; and what Write is refused by. The walks of what an operation of a disk does: Create, Rename, Remove. -/
import Derived.Test.YtfgpigblnkanpaaGreatDoorGQ
import Derived.Test.YtfgpigblnkanpaaGreatDoorB
import Derived.RegionTactic
import Derived.WalkSpells
import Derived.WalkLawsBesides
import Derived.BigQuiet
import Derived.IntWalk
import Derived.Shelf.Abstract
import Derived.Deep.AppendLies
import Derived.Laws.EntriesVeiled
import Derived.Deep.QuietTactic
import Derived.Deep.RegionHeld3
import Derived.Laws.NewBlocks
namespace Go.Proofs.YtfgpigblnkanpaaGreatDoor
open Go.RowKit Go.Maps Go.Shelf

theorem grown_refl (w : World) (r : Option Nat) : w.grownBy w r := ⟨rfl, rfl, rfl, Nat.le_refl _, fun _ _ _ => rfl⟩
theorem grown_trans {w w1 w2 : World} {r : Option Nat} (h : w.grownBy w1 r) (h2 : w1.grownBy w2 r) : w.grownBy w2 r :=
  ⟨h2.os.trans h.os, h2.tape.trans h.tape, h2.output.trans h.output, Nat.le_trans h.size h2.size, fun k hk hne => (h2.block k (Nat.lt_of_lt_of_le hk h.size) hne).trans (h.block k hk hne)⟩
/-- The number of what is wrong with a name. -/
def rightNo (n : Nm) : Nat := if badName n = true then 21 else 0
theorem rightNo_nil : rightNo [] = 21 := rfl
theorem rightNo_long {n : Nm} (h : 200 < n.length) : rightNo n = 21 := by unfold rightNo; rw [if_pos (by simp [badName, h])]
theorem rightNo_ok {n : Nm} (h : ¬ 200 < n.length) (h0 : n ≠ []) : rightNo n = 0 := by unfold rightNo; rw [if_neg (by simp [badName, h, h0])]
theorem toList_str (l : List UInt8) : (str l).toList = l := by rw [ByteArray.toList_eq]; rfl

set_option maxHeartbeats 1000000 in
set_option maxRecDepth 100000 in
theorem dkRight_any (n : Nm) (w : World) (hn : n.length ≤ 9223372036854775807) : Calls Tryz.prog 85 #[strV n] w fun e w' => e = .returned (errV (rightNo n)) ∧ w = w' := by
  have hz := str_size n
  by_cases h0 : n = []
  · subst h0
    have q1 : (str []).toList = [] := toList_str []
    have q2 : (str []).toList.isEmpty = true := by rw [q1]; rfl
    go_enter Tryz.func85, Tryz.ntmps85
    go_wp2
    go_ret
    exact ⟨rfl, rfl⟩
  · have q2 : (str n).toList.isEmpty = false := by
      rw [toList_str]
      cases n with
      | nil => exact absurd rfl h0
      | cons a l => rfl
    by_cases h1 : 200 < n.length
    · have HB := Lib.hid (rightNo_long h1)
      have H0 := Lib.hid h0
      clear h0
      go_enter Tryz.func85, Tryz.ntmps85
      go_wp2
      go_ret
      exact ⟨by rw [HB.out]; rfl, rfl⟩
    · have HB := Lib.hid (rightNo_ok h1 h0)
      have H0 := Lib.hid h0
      clear h0
      go_enter Tryz.func85, Tryz.ntmps85
      go_wp2
      go_ret
      exact ⟨by rw [HB.out]; rfl, rfl⟩

theorem DiskIn.cells {w : World} {g : Nat} {L : Lay} {d : Dk} {N : Nat} (h : DiskIn w g L d N) : w.cell? ⟨g, 0, none⟩ = some (.bool d.off) ∧ w.cell? ⟨g, 1, none⟩ = some (.int .i64 d.room) ∧ w.cell? ⟨g, 2, none⟩ = some (.map (some L.bn)) ∧ w.cell? ⟨g, 3, none⟩ = some (.map (some L.bs)) ∧ w.cell? ⟨g, 4, none⟩ = some L.vp ∧ w.cell? ⟨g, 5, none⟩ = some (.int .i64 d.armed) ∧ w.cell? ⟨g, 6, none⟩ = some L.vf :=
  ⟨h.blk.cell 0, h.blk.cell 1, h.blk.cell 2, h.blk.cell 3, h.blk.cell 4, h.blk.cell 5, h.blk.cell 6⟩
theorem DiskIn.fcells {w : World} {g : Nat} {L : Lay} {d : Dk} {N : Nat} (h : DiskIn w g L d N) {i : Nat} (hi : i < d.files.length) : w.cell? ⟨fb L.F i, 0, none⟩ = some (strV (fat d.files i).data) ∧ w.cell? ⟨fb L.F i, 1, none⟩ = some (.int .i64 (fat d.files i).safe) :=
  ⟨(h.files i hi).cell 0, (h.files i hi).cell 1⟩
/-- The number of what a name that leads nowhere is refused by. -/
def thereNo (t : Tb) (n : Nm) : Nat := if (tget t n).isSome = false then 18 else 0
theorem thereNo_none {t : Tb} {n : Nm} (h : tget t n = none) : thereNo t n = 18 := by unfold thereNo; rw [h]; rfl
theorem thereNo_some {t : Tb} {n : Nm} {f : Nat} (h : tget t n = some f) : thereNo t n = 0 := by unfold thereNo; rw [h]; rfl
theorem run_neq_pnil (w : World) : (binOp .neq 107 (.pointer none) (.pointer none)).run Tryz.prog w = .ok (.bool false) w := by kernel_rfl
theorem run_neq_psome (w : World) (a : Addr) : (binOp .neq 107 (.pointer (some a)) (.pointer none)).run Tryz.prog w = .ok (.bool true) w := by kernel_rfl
theorem run_eql_pnil (w : World) : (binOp .eql 107 (.pointer none) (.pointer none)).run Tryz.prog w = .ok (.bool true) w := by kernel_rfl

set_option maxHeartbeats 1000000 in
set_option maxRecDepth 100000 in
theorem dkthere_any (w : World) (g : Nat) (L : Lay) (d : Dk) (N : Nat) (n : Nm) (hn : n.length ≤ 9223372036854775807) (h : DiskIn w g L d N) (hk : DkOk d) : Calls Tryz.prog 63 #[.pointer (some ⟨g, 0, none⟩), strV n] w fun e w' => e = .returned (errV (thereNo d.now n)) ∧ w = w' := by
  obtain ⟨c0, c1, c2, c3, c4, c5, c6⟩ := h.cells
  have hl := h.now.look hk.now n hn
  cases hg : tget d.now n with
  | none =>
    rw [hg] at hl
    have HN := Lib.hid (thereNo_none hg)
    have HG := Lib.hid hg
    clear hg
    unfold fileV at hl
    go_enter Tryz.func63, Tryz.ntmps63
    go_wp2
    go_ret
    exact ⟨by rw [HN.out]; rfl, rfl⟩
  | some f =>
    rw [hg] at hl
    have HN := Lib.hid (thereNo_some hg)
    have HG := Lib.hid hg
    clear hg
    unfold fileV at hl
    go_enter Tryz.func63, Tryz.ntmps63
    go_wp2
    go_ret
    exact ⟨by rw [HN.out]; rfl, rfl⟩

/-! ### the operations on a table -/
set_option maxHeartbeats 1000000 in
set_option maxRecDepth 100000 in
theorem dkCreateP_any (w : World) (b : Nat) (t : Tb) (F : List Nat) (N : Nat) (n : Nm) (f x y : Nat) (h : MapIs w b t F N) (hn : n.length ≤ 9223372036854775807) (hN : N < 9223372036854775807) (hx : Blk w x [.pointer (some ⟨fb F f, 0, none⟩)] 107) (hy : Blk w y [strV n] 9) :
    Calls Tryz.prog 88 #[.map (some b), .pointer (some ⟨x, 0, none⟩), .pointer (some ⟨y, 0, none⟩)] w fun e w' => e = .returned (.tuple #[]) ∧ MapIs w' b (tins t n f) F (N + 1) ∧ w.grownBy w' (some b) := by
  have x0 := hx.cell 0
  have y0 := hy.cell 0
  simp only [List.getElem?_cons_zero] at x0 y0
  obtain ⟨w', hrun, h1, h2⟩ := h.put (by unfold maxLen; omega) n hn f
  have H1 := Lib.hid h1
  have H2 := Lib.hid h2
  clear h1 h2 hx hy
  go_enter Tryz.func88, Tryz.ntmps88
  go_wp2
  go_end0
  exact ⟨rfl, H1.out, H2.out⟩
set_option maxHeartbeats 1000000 in
set_option maxRecDepth 100000 in
theorem dkRemoveP_any (w : World) (b : Nat) (t : Tb) (F : List Nat) (N : Nat) (n : Nm) (y : Nat) (h : MapIs w b t F N) (hn : n.length ≤ 9223372036854775807) (hy : Blk w y [strV n] 9) :
    Calls Tryz.prog 96 #[.map (some b), .pointer (some ⟨y, 0, none⟩)] w fun e w' => e = .returned (.tuple #[]) ∧ MapIs w' b (tout t n) F N ∧ w.grownBy w' (some b) := by
  have y0 := hy.cell 0
  simp only [List.getElem?_cons_zero] at y0
  obtain ⟨w', hrun, h1, h2⟩ := h.cut n hn 0
  have H1 := Lib.hid h1
  have H2 := Lib.hid h2
  clear hy h1 h2
  go_enter Tryz.func96, Tryz.ntmps96
  go_wp2
  go_end0
  exact ⟨rfl, H1.out, H2.out⟩
set_option maxHeartbeats 1000000 in
set_option maxRecDepth 100000 in
theorem dkRenameP_any (w : World) (b : Nat) (t : Tb) (F : List Nat) (N : Nat) (o n : Nm) (x y : Nat) (h : MapIs w b t F N) (ht : Rise t) (ho : o.length ≤ 9223372036854775807) (hn : n.length ≤ 9223372036854775807) (hN : N < 9223372036854775807) (hx : Blk w x [strV o] 9) (hy : Blk w y [strV n] 9) :
    Calls Tryz.prog 93 #[.map (some b), .pointer (some ⟨x, 0, none⟩), .pointer (some ⟨y, 0, none⟩)] w fun e w' => e = .returned (.tuple #[]) ∧ MapIs w' b (tdone t (.rn o n)) F (N + 1) ∧ w.grownBy w' (some b) := by
  have x0 := hx.cell 0
  have y0 := hy.cell 0
  simp only [List.getElem?_cons_zero] at x0 y0
  have hl := h.look ht o ho
  have hnil := run_neq_pnil
  have hsome := run_neq_psome
  have etd : ∀ r, tget t o = r → tdone t (.rn o n) = (match r with | none => t | some f => tins (tout t o) n f) := fun r hr => by rw [← hr]; rfl
  cases hg : tget t o with
  | none =>
    rw [hg] at hl
    unfold fileV at hl
    rw [etd none hg]
    have H1 := Lib.hid (h.mono (Nat.le_succ N))
    clear h etd hg hx hy
    go_enter Tryz.func93, Tryz.ntmps93
    go_wp2
    go_end0
    exact ⟨rfl, H1.out, grown_refl _ _⟩
  | some f =>
    rw [hg] at hl
    unfold fileV at hl
    rw [etd (some f) hg]
    obtain ⟨w1, hrun, h1, h2⟩ := h.cut o ho 0
    have hbx : x ≠ b := by
      intro e
      obtain ⟨es, clock, hb⟩ := h.obj
      unfold Blk at hx
      rw [e, hb] at hx
      simp at hx
    have hby : y ≠ b := by
      intro e
      obtain ⟨es, clock, hb⟩ := h.obj
      unfold Blk at hy
      rw [e, hb] at hy
      simp at hy
    have y1 := (hy.same (h2.block y hy.lt (fun e => hby (by simpa using e)))).cell 0
    simp only [List.getElem?_cons_zero] at y1
    obtain ⟨w2, hrun2, h3, h4⟩ := h1.put (by unfold maxLen; omega) n hn f
    have H1 := Lib.hid h3
    have H2 := Lib.hid (grown_trans h2 h4)
    clear h etd hg hx hy h1 h2 h3 h4 hbx hby
    go_enter Tryz.func93, Tryz.ntmps93
    go_wp2
    go_end0
    exact ⟨rfl, H1.out, H2.out⟩

/-- A function value that does an operation to a table. -/
def PnCall (w : World) (F : List Nat) (p : Pn) (v : Value) : Prop :=
  ∃ fr cr, v = .func (.func fr) #[] cr ∧ (∀ (args : Array Value) (w : World), (callFunc fr args).run Tryz.prog w = .ok (.enter fr args) w) ∧
    ∀ b t N, MapIs w b t F N → Rise t → N < 9223372036854775807 → Calls Tryz.prog fr (#[.map (some b)] ++ cr) w fun e w' => e = .returned (.tuple #[]) ∧ MapIs w' b (tdone t p) F (N + 1) ∧ w.grownBy w' (some b)
theorem PnAt.call {w : World} {F X : List Nat} {p : Pn} {v : Value} (h : PnAt w F X p v) (hp : pnOk p) : PnCall w F p v := by
  cases p with
  | cr n f =>
    obtain ⟨b, c, rfl, hb, hc, h1, h2⟩ := h
    exact ⟨_, _, rfl, enters_of Tryz.func88 (by kernel_rfl) rfl, fun m t N hm ht hN => dkCreateP_any w m t F N n f b c hm hp hN h1 h2⟩
  | rn o n =>
    obtain ⟨b, c, rfl, hb, hc, h1, h2⟩ := h
    exact ⟨_, _, rfl, enters_of Tryz.func93 (by kernel_rfl) rfl, fun m t N hm ht hN => dkRenameP_any w m t F N o n b c hm ht hp.1 hp.2 hN h1 h2⟩
  | rm n =>
    obtain ⟨c, rfl, hc, h2⟩ := h
    exact ⟨_, _, rfl, enters_of Tryz.func96 (by kernel_rfl) rfl, fun m t N hm ht hN => (dkRemoveP_any w m t F N n c hm hp h2).mono fun e w' ⟨he, hm', hg⟩ => ⟨he, hm'.mono (Nat.le_succ _), hg⟩⟩
end Go.Proofs.YtfgpigblnkanpaaGreatDoor

namespace Go.Proofs.YtfgpigblnkanpaaGreatDoor
open Go.RowKit Go.Maps Go.Shelf

theorem infoPn : (Tryz.prog.info? 139).map (fun i => (i.zero, i.size, i.bytes)) = some (some .nilFunc, 1, 8) := by kernel_rfl

/-- Behind the append: what waits has one more. -/
theorem DiskIn.pended {w w1 w2 : World} {g : Nat} {L : Lay} {d d1 : Dk} {N gg cap : Nat} {p : Pn} {v : Value} {X' : List Nat} {o : Obj} (h1 : DiskIn w1 g L d1 (N + 1)) (hd : d1.pend = d.pend) (hsafe : MapIs w1 L.bs d1.safe L.F (N - d.pend.length))
    (hgrow : (w1.alloc o).grownBy w2 L.vp.ownBlock) (hown : w2.ownsRow 0 139 1 (.slice (some ⟨gg, 0, none⟩) (L.vs.length + 1) cap) (L.vs.length + 1) (L.vs ++ [v])) (hat : L.vp.ownBlock = some gg ∨ gg = w1.heap.size + 1)
    (hv : PnAt w L.F (L.X ++ X') p v) (hlt : ∀ k ∈ L.foot g, k < w.heap.size) (ap : Apt L g) (hX1 : ∀ x ∈ X', x < w.heap.size) (hX2 : ∀ x ∈ X', x ∉ L.foot g) (hS : Stp (L.foot g) (L.foot g) w w1) (hgs : ∀ k ∈ L.foot g, k ≠ L.bn → w1.heap[k]? = w.heap[k]?) :
    DiskIn (w2.setCell ⟨g, 4, none⟩ (.slice (some ⟨gg, 0, none⟩) (L.vs.length + 1) cap)) g { L with X := L.X ++ X', vs := L.vs ++ [v], vp := .slice (some ⟨gg, 0, none⟩) (L.vs.length + 1) cap } { d1 with pend := d1.pend ++ [p] } (N + 1) ∧
      Stp (L.foot g ++ X') ({ L with X := L.X ++ X', vs := L.vs ++ [v], vp := .slice (some ⟨gg, 0, none⟩) (L.vs.length + 1) cap : Lay }.foot g) w (w2.setCell ⟨g, 4, none⟩ (.slice (some ⟨gg, 0, none⟩) (L.vs.length + 1) cap)) := by
  have hz1 : w.heap.size ≤ w1.heap.size := hS.size
  have hza : (w1.alloc o).heap.size = w1.heap.size + 1 := by simp
  have hz2 : w1.heap.size + 1 ≤ w2.heap.size := by have := hgrow.size; omega
  have hz3 : ∀ u, (w2.setCell ⟨g, 4, none⟩ u).heap.size = w2.heap.size := fun u => by simp [World.setCell]
  -- a block of the first world other than g and the row of what waits is as it was
  have hk1 : ∀ k, k < w1.heap.size → k ≠ g → L.vp.ownBlock ≠ some k → ∀ u, (w2.setCell ⟨g, 4, none⟩ u).heap[k]? = w1.heap[k]? := fun k hk hg hv u => by
    rw [Below.heap_setCell _ _ _ _ hg, hgrow.block k (by omega) (fun e => hv e.symm), Below.heap_alloc _ _ _ hk]
  have hlt1 : ∀ k ∈ L.foot g, k < w1.heap.size := fun k hk => by have := hlt k hk; omega
  have hgg : ∀ k ∈ L.foot g, L.vp.ownBlock ≠ some k → k ≠ gg := fun k hk hne e => by
    rcases hat with h | h
    · exact hne (e ▸ h)
    · have := hlt1 k hk; omega
  have hggX : ∀ k ∈ X', k ≠ gg := fun k hk e => by
    rcases hat with h | h
    · exact hX2 k hk (foot_vp (e ▸ h))
    · have := hX1 k hk; omega
  have hXg : ∀ x ∈ X', x ≠ g := fun x hx e => hX2 x hx (e ▸ foot_g)
  have hXv : ∀ x ∈ X', L.vp.ownBlock ≠ some x := fun x hx e => hX2 x hx (foot_vp e)
  have hXk : ∀ x ∈ X', ∀ u, (w2.setCell ⟨g, 4, none⟩ u).heap[x]? = w.heap[x]? := fun x hx u =>
    (hk1 x (by have := hX1 x hx; omega) (hXg x hx) (hXv x hx) u).trans (hS.block x (hX1 x hx) (hX2 x hx))
  have hLX : ∀ x ∈ L.X, ∀ u, (w2.setCell ⟨g, 4, none⟩ u).heap[x]? = w1.heap[x]? := fun x hx u =>
    hk1 x (hlt1 x (foot_X hx)) (fun e => ap.gX (e ▸ hx)) (fun e => ap.Xvp x e hx) u
  have hpn := h1.pend
  rw [hd] at hpn
  refine ⟨⟨?_, ?_, ?_, h1.len, ?_, ?_, ?_, ?_, ?_, ?_⟩, ?_⟩
  · have hb2 : Blk w2 g (dkCells L d1) 101 := (h1.blk.alloc o).same (hgrow.block g (by have := h1.blk.lt; omega) (fun e => ap.gvp g e.symm rfl))
    exact hb2.set 4 _
  · exact h1.now.same (hk1 _ (hlt1 _ foot_bn) ap.gbn.symm (fun e => ap.nvp _ e rfl) _)
  · have := hsafe.same (hk1 _ (hlt1 _ foot_bs) ap.gbs.symm (fun e => ap.svp _ e rfl) (.slice (some ⟨gg, 0, none⟩) (L.vs.length + 1) cap))
    refine this.mono ?_
    rw [hd, List.length_append]
    simp
  · intro i hi
    have hm := getD_mem (F := L.F) (i := i) (by rw [h1.len]; exact hi)
    exact (h1.files i hi).same (hk1 _ (hlt1 _ (foot_F hm)) (fun e => ap.gF (e ▸ hm)) (fun e => ap.Fvp _ e hm) _)
  · have e1 : (L.vs ++ [v]).length = L.vs.length + 1 := by simp
    show World.ownsRow _ 0 _ 1 _ (L.vs ++ [v]).length (L.vs ++ [v])
    rw [e1]
    refine ownsRow_same hown fun k hk => ?_
    have e2 : gg = k := by simpa [Value.ownBlock] using hk
    subst e2
    refine Below.heap_setCell _ _ _ _ fun e => ?_
    rcases hat with h | h
    · exact ap.gvp gg h e.symm
    · have := hlt1 g foot_g
      have e' : gg = g := e
      omega
  · rw [hd]
    refine PnsAt.snoc (hv.same fun k hk => ?_) ?_
    · rcases List.mem_append.1 hk with hk | hk
      · exact (hLX k hk _).trans (hgs k (foot_X hk) (fun e => ap.nX (e ▸ hk)))
      · exact hXk k hk _
    · have := hpn.same (w' := w2.setCell ⟨g, 4, none⟩ (.slice (some ⟨gg, 0, none⟩) (L.vs.length + 1) cap)) (fun k hk => hLX k hk _)
      exact this.wider X'
  · intro x hx
    rw [hz3]
    rcases List.mem_append.1 hx with hx | hx
    · have := hlt1 x (foot_X hx); omega
    · have := hX1 x hx; omega
  · exact ownsRow_same h1.fate fun k hk => hk1 k (hlt1 k (foot_vf hk)) (fun e => ap.gvf k hk e.symm) (fun e => ap.pf k e hk) _
  · have hself : ∀ k, Value.ownBlock (.slice (some ⟨gg, 0, none⟩) (L.vs.length + 1) cap) = some k → k = gg := fun k hk => (by simpa [Value.ownBlock] using hk : gg = k).symm
    exact ⟨ap.gbn, ap.gbs, ap.gF, fun h => (List.mem_append.1 h).elim ap.gX (fun h => hXg g h rfl), fun k hk e => hgg g foot_g (fun e2 => ap.gvp g e2 rfl) (e.trans (hself k hk)), ap.gvf, ap.nbs, ap.nF, fun h => (List.mem_append.1 h).elim ap.nX (fun h => hX2 _ h foot_bn), fun k hk e => hgg _ foot_bn (fun e2 => ap.nvp _ e2 rfl) (e.trans (hself k hk)), ap.nvf, ap.sF, fun h => (List.mem_append.1 h).elim ap.sX (fun h => hX2 _ h foot_bs), fun k hk e => hgg _ foot_bs (fun e2 => ap.svp _ e2 rfl) (e.trans (hself k hk)), ap.svf, ap.FF, fun k hk => (List.mem_append.1 hk).elim (ap.FX k) (fun h hF => hX2 k h (foot_F hF)), fun k hk hF => hgg k (foot_F hF) (fun e2 => ap.Fvp k e2 hF) (hself k hk), ap.Fvf, fun k hk hX => (List.mem_append.1 hX).elim (fun h => hgg k (foot_X h) (fun e2 => ap.Xvp k e2 h) (hself k hk)) (fun h => hggX k h (hself k hk)), fun k hk e => hgg k (foot_vf e) (fun e2 => ap.pf k e2 e) (hself k hk)⟩
  · refine ⟨(hgrow.os).trans hS.os, (hgrow.tape).trans hS.tape, (hgrow.output).trans hS.output, by rw [hz3]; omega, fun k hk hA => ?_, fun k hk => ?_⟩
    · have hA1 : k ∉ L.foot g := fun e => hA (List.mem_append_left _ e)
      exact (hk1 k (by omega) (fun e => hA1 (e ▸ foot_g)) (fun e => hA1 (foot_vp e)) _).trans (hS.block k hk hA1)
    · rcases foot_cases hk with rfl | rfl | rfl | hk | hk | hk | hk
      · exact Or.inl (List.mem_append_left _ foot_g)
      · exact Or.inl (List.mem_append_left _ foot_bn)
      · exact Or.inl (List.mem_append_left _ foot_bs)
      · exact Or.inl (List.mem_append_left _ (foot_F hk))
      · rcases List.mem_append.1 hk with hk | hk
        · exact Or.inl (List.mem_append_left _ (foot_X hk))
        · exact Or.inl (List.mem_append_right _ hk)
      · have e2 : gg = k := by simpa [Value.ownBlock] using hk
        subst e2
        rcases hat with h | h
        · exact Or.inl (List.mem_append_left _ (foot_vp h))
        · exact Or.inr (by omega)
      · exact Or.inl (List.mem_append_left _ (foot_vf hk))

def NamesPost (g : Nat) (L : Lay) (d : Dk) (N : Nat) (p : Pn) (X' : List Nat) (w : World) (e : Ending) (w' : World) : Prop :=
  e = .returned (.tuple #[]) ∧ ∃ L' : Lay, L'.F = L.F ∧ L'.X = L.X ++ X' ∧ DiskIn w' g L' { d with now := tdone d.now p, pend := d.pend ++ [p] } (N + 1) ∧ Stp (L.foot g ++ X') (L'.foot g) w w'
set_option maxHeartbeats 2000000 in
set_option maxRecDepth 100000 in
theorem dknames_any (w : World) (g : Nat) (L : Lay) (d : Dk) (N : Nat) (p : Pn) (v : Value) (X' : List Nat) (h : DiskIn w g L d N) (hk : DkOk d) (hb : d.pend.length < 1099511627776) (hN : N < 1099511627776) (hp : pnOk p) (hv : PnAt w L.F (L.X ++ X') p v)
    (hX1 : ∀ x ∈ X', x < w.heap.size) (hX2 : ∀ x ∈ X', x ∉ L.foot g) :
    Calls Tryz.prog 87 #[.pointer (some ⟨g, 0, none⟩), v] w (NamesPost g L d N p X' w) := by
  obtain ⟨c0, c1, c2, c3, c4, c5, c6⟩ := h.cells
  obtain ⟨fr, cr, rfl, her, hcall⟩ := hv.call hp
  have hC := Lib.hid (hcall L.bn d.now N h.now hk.now (by omega))
  clear hcall
  obtain ⟨i0, hi, hz0, hz1, hz2⟩ := info_parts infoPn
  have ap := h.apart
  have hlt := h.lt
  have hlen : L.vs.length = d.pend.length := h.pend.len
  have hpl : L.vs.length < 1099511627776 := by omega
  have AP := Lib.hid ap
  have LT := Lib.hid hlt
  have LE := Lib.hid hlen
  have HH := Lib.hid h
  have HV := Lib.hid hv
  clear ap hlt hlen h hv
  go_enter Tryz.func87, Tryz.ntmps87
  go_wp2_with (fail)
  refine hC.out.mono ?_
  rintro e w1 ⟨rfl, hm1, hg1⟩
  have hgs : ∀ k ∈ L.foot g, k ≠ L.bn → w1.heap[k]? = w.heap[k]? := fun k hk hne => hg1.block k (LT.out k hk) (fun e => hne (by simpa using e))
  have h1 : DiskIn w1 g L { d with now := tdone d.now p } (N + 1) := HH.out.setNow (Nat.le_succ N) hm1 hg1.size hgs
  obtain ⟨e0, e1, e2, e3, e4, e5, e6⟩ := h1.cells
  have fz := h1.blk.free 4
  have row := h1.row
  have S1 : Stp (L.foot g) (L.foot g) w w1 := Stp.of_grown hg1 (fun k hk => (by
    have e : L.bn = k := (by simpa using hk)
    exact e ▸ foot_bn)) (fun k hk => Or.inl hk)
  have H1 := Lib.hid h1
  have HM := Lib.hid hm1
  have HG := Lib.hid hg1
  have HGS := Lib.hid hgs
  have HS := Lib.hid S1
  have hgl : g < w1.heap.size := h1.blk.lt
  clear h1 hm1 hg1 hgs S1
  go_wp2_with (at_builtin; refine wpList_append_lies _ rfl (.tmp 14) (.tmp 16) 99 rfl 0 139 i0 .nilFunc 1 8 Tryz.underlying99 hi hz0 hz1 hz2 rfl (by decide) L.vp L.vs.length L.vs rfl (row.alloc _) ⟨w1.heap.size, 0, none⟩ 1 1 [.func (.func fr) #[] cr] rfl rfl (World.news_of_block (cs := #[.func (.func fr) #[] cr]) (t := 139) (fr := (0, 0)) (heap_alloc_new w1 _)) ?c1 (by omega) ?c2 ?c3 (Nat.zero_le _) (w1.heap.size + 1) (by simp) ?_)
  case c1 => intro u hu; simp at hu; subst hu; rfl
  case c2 => unfold maxLen; omega
  case c3 => omega
  intro gg cap w2 hown hgrow hat hlt2
  have hgvp : some g ≠ L.vp.ownBlock := fun e => AP.out.gvp g e.symm rfl
  have k4 : w2.cell? ⟨g, 4, none⟩ = some L.vp := (hgrow.cell_far ⟨g, 4, none⟩ (by simp; omega) hgvp).trans ((World.cell?_alloc_past _ _ _ hgl).trans e4)
  have f4 : w2.frozen? ⟨g, 4, none⟩ = false := by
    rw [hgrow.frozen_far ⟨g, 4, none⟩ (by simp; omega) hgvp]
    exact (World.frozen?_of_block (w := w1) (Below.heap_alloc _ _ _ hgl)).trans fz
  have R := Lib.hid (DiskIn.pended (p := p) (v := .func (.func fr) #[] cr) H1.out (N := N) rfl (HH.out.safe.same (HGS.out _ foot_bs AP.out.nbs.symm)) hgrow hown hat HV.out LT.out AP.out hX1 hX2 HS.out HGS.out)
  clear hown hgrow hat row e0 e1 e2 e3 e4 e5 e6 fz hgvp hX1 hX2
  go_wp2
  go_end0
  exact ⟨rfl, ⟨L.bn, L.bs, L.F, L.X ++ X', L.vs ++ [.func (.func fr) #[] cr], .slice (some ⟨gg, 0, none⟩) (L.vs.length + 1) cap, L.vf⟩, rfl, rfl, R.out⟩
end Go.Proofs.YtfgpigblnkanpaaGreatDoor

namespace Go.Proofs.YtfgpigblnkanpaaGreatDoor
open Go.RowKit Go.Maps Go.Shelf

theorem errV_no {n : Nat} (h : n ≠ 0) : errV n = .iface 102 (.int .i64 n) := by rw [errV, if_neg h]
theorem errV_0 : errV 0 = .nilIface := rfl
theorem refused_sync (d : Dk) (n : Nm) : drefused d (.sync n) = thereNo d.now n := rfl
theorem refused_remove (d : Dk) (n : Nm) : drefused d (.remove n) = thereNo d.now n := rfl
theorem refused_rename (d : Dk) (o n : Nm) : drefused d (.rename o n) = if thereNo d.now o = 0 then rightNo n else thereNo d.now o := by
  unfold thereNo
  show (if (tget d.now o).isSome = false then 18 else if badName n = true then 21 else 0) = _
  cases (tget d.now o).isSome <;> rfl
theorem refused_create (d : Dk) (n : Nm) : drefused d (.create n) = if rightNo n = 0 then (if (tget d.now n).isSome = true then 13 else 0) else rightNo n := by
  unfold rightNo
  show (if badName n = true then 21 else if (tget d.now n).isSome = true then 13 else 0) = _
  cases badName n <;> rfl
def RefPost (no : Nat) (w : World) (e : Ending) (w' : World) : Prop := e = .returned (errV no) ∧ Below w.heap.size w w'

set_option maxHeartbeats 1000000 in
set_option maxRecDepth 100000 in
theorem dkSyncR_any (w : World) (g : Nat) (L : Lay) (d : Dk) (N x y : Nat) (n : Nm) (hn : n.length ≤ 9223372036854775807) (h : DiskIn w g L d N) (hk : DkOk d) (hx : Blk w x [.pointer (some ⟨g, 0, none⟩)] 29) (hy : Blk w y [strV n] 9) :
    Calls Tryz.prog 62 #[.pointer (some ⟨x, 0, none⟩), .pointer (some ⟨y, 0, none⟩)] w (RefPost (drefused d (.sync n)) w) := by
  have x0 := hx.cell 0
  have y0 := hy.cell 0
  simp only [List.getElem?_cons_zero] at x0 y0
  have hC := dkthere_any w g L d N n hn h hk
  clear h hk hx hy
  go_enter Tryz.func62, Tryz.ntmps62
  go_wp2_with (go_at_call 63; refine hC.mono ?_; rintro e w' ⟨rfl, rfl⟩)
  go_ret
  exact ⟨rfl, Below.refl _ _⟩
set_option maxHeartbeats 1000000 in
set_option maxRecDepth 100000 in
theorem dkRemoveR_any (w : World) (g : Nat) (L : Lay) (d : Dk) (N x y : Nat) (n : Nm) (hn : n.length ≤ 9223372036854775807) (h : DiskIn w g L d N) (hk : DkOk d) (hx : Blk w x [.pointer (some ⟨g, 0, none⟩)] 29) (hy : Blk w y [strV n] 9) :
    Calls Tryz.prog 94 #[.pointer (some ⟨x, 0, none⟩), .pointer (some ⟨y, 0, none⟩)] w (RefPost (drefused d (.remove n)) w) := by
  have x0 := hx.cell 0
  have y0 := hy.cell 0
  simp only [List.getElem?_cons_zero] at x0 y0
  have hC := dkthere_any w g L d N n hn h hk
  clear h hk hx hy
  go_enter Tryz.func94, Tryz.ntmps94
  go_wp2_with (go_at_call 63; refine hC.mono ?_; rintro e w' ⟨rfl, rfl⟩)
  go_ret
  exact ⟨rfl, Below.refl _ _⟩
set_option maxHeartbeats 1000000 in
set_option maxRecDepth 100000 in
theorem dkFlushR_any (w : World) (d : Dk) : Calls Tryz.prog 65 #[] w (RefPost (drefused d .flush) w) := by
  go_enter Tryz.func65, Tryz.ntmps65
  go_wp2
  go_ret
  exact ⟨rfl, Below.refl _ _⟩
set_option maxHeartbeats 1000000 in
set_option maxRecDepth 100000 in
theorem dkRenameR_any (w : World) (g : Nat) (L : Lay) (d : Dk) (N x y z : Nat) (o n : Nm) (ho : o.length ≤ 9223372036854775807) (hn : n.length ≤ 9223372036854775807) (h : DiskIn w g L d N) (hk : DkOk d) (hx : Blk w x [.pointer (some ⟨g, 0, none⟩)] 29) (hy : Blk w y [strV o] 9) (hz : Blk w z [strV n] 9) :
    Calls Tryz.prog 91 #[.pointer (some ⟨x, 0, none⟩), .pointer (some ⟨y, 0, none⟩), .pointer (some ⟨z, 0, none⟩)] w (RefPost (drefused d (.rename o n)) w) := by
  have x0 := hx.cell 0
  have y0 := hy.cell 0
  have z0 := hz.cell 0
  simp only [List.getElem?_cons_zero] at x0 y0 z0
  have hC := dkthere_any w g L d N o ho h hk
  have hR := dkRight_any n w hn
  rw [refused_rename]
  generalize rightNo n = r at *
  generalize thereNo d.now o = q at *
  clear h hk hx hy hz
  by_cases hq : q = 0
  · subst hq
    rw [if_pos rfl]
    go_enter Tryz.func91, Tryz.ntmps91
    go_wp2_with (first | (go_at_call 63; refine hC.mono ?_; rintro e w' ⟨rfl, rfl⟩; rw [errV_0]) | (go_at_call 85; refine hR.mono ?_; rintro e w' ⟨rfl, rfl⟩))
    go_ret
    exact ⟨rfl, Below.refl _ _⟩
  · rw [if_neg hq]
    have HQ := Lib.hid (errV_no hq)
    have HQ0 := Lib.hid hq
    clear hq
    go_enter Tryz.func91, Tryz.ntmps91
    go_wp2_with (first | (go_at_call 63; refine hC.mono ?_; rintro e w' ⟨rfl, rfl⟩; rw [HQ.out]))
    go_ret
    exact ⟨by rw [HQ.out]; rfl, Below.refl _ _⟩
set_option maxHeartbeats 1000000 in
set_option maxRecDepth 100000 in
theorem dkCreateR_any (w : World) (g : Nat) (L : Lay) (d : Dk) (N x y : Nat) (n : Nm) (hn : n.length ≤ 9223372036854775807) (h : DiskIn w g L d N) (hk : DkOk d) (hx : Blk w x [.pointer (some ⟨g, 0, none⟩)] 29) (hy : Blk w y [strV n] 9) :
    Calls Tryz.prog 84 #[.pointer (some ⟨y, 0, none⟩), .pointer (some ⟨x, 0, none⟩)] w (RefPost (drefused d (.create n)) w) := by
  have x0 := hx.cell 0
  have y0 := hy.cell 0
  simp only [List.getElem?_cons_zero] at x0 y0
  obtain ⟨c0, c1, c2, c3, c4, c5, c6⟩ := h.cells
  have hR := dkRight_any n w hn
  have hl := fun k => (h.drewN k).now.look hk.now n hn
  have hnil := run_neq_pnil
  have hsome := run_neq_psome
  rw [refused_create]
  generalize rightNo n = q at *
  clear hk hx hy
  by_cases hq : q = 0
  · subst hq
    rw [if_pos rfl]
    cases hg : tget d.now n with
    | none =>
      simp only [hg, fileV] at hl
      have HG := Lib.hid hg
      clear hg h
      go_enter Tryz.func84, Tryz.ntmps84
      go_wp2_with (first | (go_at_call 85; refine hR.mono ?_; rintro e w' ⟨rfl, rfl⟩; rw [errV_0]))
      go_quiet (fail)
      go_wp2
      go_ret
      exact ⟨rfl, below_drewN (Below.refl _ _) _⟩
    | some f =>
      simp only [hg, fileV] at hl
      have HG := Lib.hid hg
      clear hg h
      go_enter Tryz.func84, Tryz.ntmps84
      go_wp2_with (first | (go_at_call 85; refine hR.mono ?_; rintro e w' ⟨rfl, rfl⟩; rw [errV_0]))
      go_quiet (fail)
      go_wp2
      go_ret
      exact ⟨rfl, below_drewN (Below.refl _ _) _⟩
  · rw [if_neg hq]
    have HQ := Lib.hid (errV_no hq)
    have HQ0 := Lib.hid hq
    clear hq h
    go_enter Tryz.func84, Tryz.ntmps84
    go_wp2_with (first | (go_at_call 85; refine hR.mono ?_; rintro e w' ⟨rfl, rfl⟩; rw [HQ.out]))
    go_ret
    exact ⟨by rw [HQ.out]; rfl, Below.refl _ _⟩
end Go.Proofs.YtfgpigblnkanpaaGreatDoor

namespace Go.Proofs.YtfgpigblnkanpaaGreatDoor
open Go.RowKit Go.Maps Go.Shelf

/-! ### the sum of what is left -/
def lsum (fs : List Fl) (left : Lit → Bool) : Tb → Nat
  | [] => 0
  | x :: r => (if left (.string x.1) = true then (fat fs x.2).data.length else 0) + lsum fs left r
theorem lsum_congr {fs : List Fl} {l m : Lit → Bool} : ∀ {t : Tb}, (∀ x ∈ t, l (.string x.1) = m (.string x.1)) → lsum fs l t = lsum fs m t
  | [], _ => rfl
  | x :: r, h => by rw [lsum, lsum, h x List.mem_cons_self, lsum_congr fun y hy => h y (List.mem_cons_of_mem _ hy)]
theorem lsum_all (fs : List Fl) : ∀ (t : Tb), lsum fs (fun _ => true) t = dsum fs t
  | [] => rfl
  | x :: r => by rw [lsum, dsum, lsum_all fs r]; rfl
theorem lsum_none (fs : List Fl) : ∀ (t : Tb), lsum fs (fun _ => false) t = 0
  | [] => rfl
  | x :: r => by rw [lsum, lsum_none fs r]; rfl
theorem lsum_step {fs : List Fl} {l : Lit → Bool} {n : Nm} {f : Nat} : ∀ {t : Tb}, Rise t → (n, f) ∈ t → l (.string n) = true → lsum fs l t = (fat fs f).data.length + lsum fs (fun z => l z && !z.sameKey (.string n)) t
  | [], _, h, _ => by cases h
  | x :: r, ht, h, hl => by
    rw [Rise, List.pairwise_cons] at ht
    rw [lsum, lsum]
    rcases List.mem_cons.1 h with e | h
    · subst e
      have h1 : lsum fs l r = lsum fs (fun z => l z && !z.sameKey (.string n)) r := lsum_congr fun y hy => by
        have hne : ¬ y.1 = n := fun e => by
          have := ht.1 y hy
          rw [e, nlt_irrefl] at this; cases this
        simp [Lit.sameKey, hne]
      rw [h1, if_pos hl]
      simp [Lit.sameKey]
    · have hne : ¬ x.1 = n := nlt_ne (ht.1 _ h)
      have h1 : (l (.string x.1) && !Lit.sameKey (.string x.1) (.string n)) = l (.string x.1) := by simp [Lit.sameKey, hne]
      rw [h1, lsum_step ht.2 h hl]
      omega
theorem dsum_le (fs : List Fl) (R : Nat) (h : ∀ i, (fat fs i).data.length ≤ R) : ∀ (t : Tb), dsum fs t ≤ t.length * R
  | [] => by simp [dsum]
  | x :: r => by
    rw [dsum, List.length_cons, Nat.add_mul, Nat.one_mul]
    have := dsum_le fs R h r
    have := h x.2
    omega
theorem strV_enc (x : List UInt8) : encStr x = strV x := rfl
theorem lsum_le (fs : List Fl) (l : Lit → Bool) : ∀ (t : Tb), lsum fs l t ≤ dsum fs t
  | [] => Nat.le_refl _
  | x :: r => by
    rw [lsum, dsum]
    have := lsum_le fs l r
    split <;> omega
theorem fat_in_all (d : Dk) (N : Nat) (hb : DkB d N) (i : Nat) : (fat d.files i).data.length ≤ 268435456 := Nat.le_trans (fat_in d d.room hb.data i) hb.room
theorem dused_le (d : Dk) (N : Nat) (hb : DkB d N) : dsum d.files d.now ≤ N * 268435456 := Nat.le_trans (dsum_le d.files 268435456 (fat_in_all d N hb) d.now) (Nat.mul_le_mul_right _ hb.now)

set_option maxHeartbeats 2000000 in
set_option maxRecDepth 100000 in
theorem dkUsed_any (w : World) (g : Nat) (L : Lay) (d : Dk) (N : Nat) (h : DiskIn w g L d N) (hk : DkOk d) (hb : DkB d N) (hN : N < 4294967296) :
    Calls Tryz.prog 29 #[.pointer (some ⟨g, 0, none⟩)] w fun e w' => e = .returned (.int .i64 (dused d)) ∧ Below w.heap.size w w' := by
  obtain ⟨c0, c1, c2, c3, c4, c5, c6⟩ := h.cells
  cases hoff : d.off with
  | true =>
    rw [hoff] at c0
    have e0 : dused d = 0 := by unfold dused; rw [if_pos hoff]
    rw [e0]
    clear hoff e0
    go_enter Tryz.func29, Tryz.ntmps29
    go_wp2
    go_ret
    exact ⟨rfl, Below.refl _ _⟩
  | false =>
    rw [hoff] at c0
    have e0 : dused d = dsum d.files d.now := by unfold dused; rw [if_neg (by rw [hoff]; simp)]
    rw [e0]
    have hle := dused_le d N hb
    have hle2 : dsum d.files d.now < 9223372036854775807 := by omega
    obtain ⟨es, hown, hp⟩ := h.now
    have HH := Lib.hid h
    have HK := Lib.hid hk
    have HP := Lib.hid hp
    clear h hk hp hoff e0 hle
    generalize hD : dsum d.files d.now = T at *
    have HD := Lib.hid hD
    clear hD
    go_enter Tryz.func29, Tryz.ntmps29
    go_wp2_with (at_range; refine wpList_range_own _ rfl _ 98 rfl 9 107 tableKeyed Tryz.underlying98 fileElem L.bn N (.map es) rfl hown ?_; intro w0 hrg0 hg0 hs0)
    go_frame
    have hbel0 : Below w.heap.size w w0 := (Below.refl _ w).grown hg0 (Nat.le_refl _) (fun k hk => by cases hk)
    go_loopw [3] (fun nv wr => ∃ (left : Lit → Bool) (cnt m : Nat), wr.ranges Tryz.prog 9 fileElem L.bn w.heap.size N (.map es) left cnt ∧ nv = .int .i64 m ∧ Hid (m + lsum d.files left d.now = T) ∧ Below w.heap.size w wr) (fun _ wr => wr.rangeLeft L.bn w.heap.size)
    case atStart =>
      refine ⟨_, _, 0, hrg0, rfl, ?_, hbel0⟩
      show 0 + lsum d.files (Maps.has (.map es)) d.now = T
      rw [← HD.out, Nat.zero_add, ← lsum_all]
      refine lsum_congr fun x hx => ?_
      rw [has_perm HP.out HK.out.now, tget_of_mem (n := x.1) (f := x.2) HK.out.now hx]
      rfl
    case round =>
      obtain ⟨left, cnt, m, hrg, rfl, hsum, hbel⟩ := hrel
      go_wp2_with (at_next; refine wpList_next_ranges _ rfl _ rfl 9 tableKeyed fileElem encStr (fun v : Value => v) ?k1 ?k2 L.bn w.heap.size N _ left cnt rfl hrg ?_ ?_)
      case k1 =>
        intro key kl hkl
        obtain ⟨x, hx, _⟩ := Maps.keyOf_str Tryz.underlying9 hkl
        exact ⟨x, hx⟩
      case k2 => exact fun v _ _ => ⟨v, rfl⟩
      · intro _ hl0
        have hm : m = T := by
          have h1 := hsum.out
          rw [lsum_congr (m := fun _ => false) (fun x _ => hl0 _), lsum_none] at h1
          omega
        subst hm
        go_wp2
        go_ret
        exact ⟨rfl, hbel⟩
      · intro x c kl a bb w1 cnt1 hkey hlk hv hat hrg1 hlt hg1 hs1 hen
        obtain ⟨x', hx', rfl, hxl⟩ := Maps.keyOf_str Tryz.underlying9 hkey
        obtain rfl := encStr_inj hx'
        have hhas := Maps.has_true_of_atKey hat
        rw [has_perm HP.out HK.out.now] at hhas
        obtain ⟨f, hf⟩ := Option.isSome_iff_exists.1 hhas
        have ha := hat .nil
        rw [atKey_perm HP.out HK.out.now, hf] at ha
        subst ha
        obtain rfl := fileElem_inv hv
        have hmem := tget_mem hf
        have hfl := HK.out.nowIn _ hmem
        have hbl := (HH.out.files f hfl).lt
        have hbel1 : Below w.heap.size w w1 := hbel.grown hg1 hbel.size (fun k hk => by simp at hk; omega)
        have hc0 := (hbel1.cell (p := ⟨fb L.F f, 0, none⟩) hbl).trans (HH.out.fcells hfl).1
        have hst := lsum_step HK.out.now hmem hlk (fs := d.files)
        have hz := str_size (fat d.files f).data
        have hll := lsum_le d.files left d.now
        have h1 := hsum.out
        have hsum1 : Hid (m + (fat d.files f).data.length + lsum d.files (fun z => left z && !z.sameKey (.string x)) d.now = T) := by show _ = _; omega
        have hm1 : m + (fat d.files f).data.length ≤ T := by omega
        have HST := Lib.hid hst
        clear hst hll h1 hhas hv hat hx' hkey hf hmem
        simp only [fileV] at *
        go_wp2
        go_roundw
        case rel => exact ⟨_, cnt1, m + (fat d.files f).data.length, hrg1, by go_num, hsum1, hbel1⟩
        case measure => rw [hrg1.left_eq, hrg.left_eq]; exact hlt

theorem refused_write (d : Dk) (n : Nm) (s : List UInt8) : drefused d (.write n s) = if thereNo d.now n = 0 then (if d.room < dused d + s.length then 19 else 0) else thereNo d.now n := by
  unfold thereNo
  show (if (tget d.now n).isSome = false then 18 else if d.room < dused d + s.length then 19 else 0) = _
  cases (tget d.now n).isSome <;> rfl
theorem wrS_step {w w1 w2 : World} {g x z : Nat} {v0 v1 v2 : Value} (hx : x < w.heap.size) (hz : z < w.heap.size) (hg : g < w.heap.size) (h : w1.cell? ⟨x, 0, none⟩ = some v0 ∧ w1.cell? ⟨z, 0, none⟩ = some v1 ∧ w1.cell? ⟨g, 1, none⟩ = some v2 ∧ Below w.heap.size w w1) (hb : Below w1.heap.size w1 w2) :
    w2.cell? ⟨x, 0, none⟩ = some v0 ∧ w2.cell? ⟨z, 0, none⟩ = some v1 ∧ w2.cell? ⟨g, 1, none⟩ = some v2 ∧ Below w.heap.size w w2 := by
  have hs := h.2.2.2.size
  refine ⟨(hb.cell (p := ⟨x, 0, none⟩) (by show x < _; omega)).trans h.1, (hb.cell (p := ⟨z, 0, none⟩) (by show z < _; omega)).trans h.2.1, (hb.cell (p := ⟨g, 1, none⟩) (by show g < _; omega)).trans h.2.2.1, h.2.2.2.trans (hb.mono hs)⟩
set_option maxHeartbeats 2000000 in
set_option maxRecDepth 100000 in
theorem dkWriteR_any (w : World) (g : Nat) (L : Lay) (d : Dk) (N x y z : Nat) (n : Nm) (s : List UInt8) (hn : n.length ≤ 9223372036854775807) (hsl : s.length ≤ 140737488355328) (h : DiskIn w g L d N) (hk : DkOk d) (hb : DkB d N) (hN : N < 4294967296) (hx : Blk w x [.pointer (some ⟨g, 0, none⟩)] 29) (hy : Blk w y [strV n] 9) (hz : Blk w z [strV s] 9) :
    Calls Tryz.prog 89 #[.pointer (some ⟨x, 0, none⟩), .pointer (some ⟨y, 0, none⟩), .pointer (some ⟨z, 0, none⟩)] w (RefPost (drefused d (.write n s)) w) := by
  have x0 := hx.cell 0
  have y0 := hy.cell 0
  have z0 := hz.cell 0
  simp only [List.getElem?_cons_zero] at x0 y0 z0
  have hC := dkthere_any w g L d N n hn h hk
  rw [refused_write]
  generalize thereNo d.now n = q at *
  by_cases hq : q = 0
  · subst hq
    rw [if_pos rfl]
    have hU := dkUsed_any
    have hXl := hx.lt
    have hZl := hz.lt
    have hGl := h.blk.lt
    have hle := dused_le d N hb
    have hle2 : dused d < 4611686018427387904 := by unfold dused; split <;> omega
    have hro := hb.room
    obtain ⟨c0, c1, c2, c3, c4, c5, c6⟩ := h.cells
    have HH := Lib.hid h
    have HK := Lib.hid hk
    have HB := Lib.hid hb
    have hsz := str_size s
    clear h hk hb hx hy hz hle
    generalize hu : dused d = u at *
    have HU := Lib.hid hu
    clear hu
    have i1 : IntKind.i64.wrap ((u : Int) + (s.length : Int)) = (u : Int) + (s.length : Int) := IntWalk.i64_in _ (by omega)
    by_cases hlt : d.room < u + s.length
    · rw [if_pos hlt]
      have i2 : decide ((d.room : Int) < (u : Int) + (s.length : Int)) = true := by simp; omega
      go_enter Tryz.func89, Tryz.ntmps89
      go_wp2_with (first | (go_at_call 63; refine hC.mono ?_; rintro e w' ⟨rfl, rfl⟩; rw [errV_0]))
      go_region_held3 (fun w' => w'.cell? ⟨x, 0, none⟩ = some (.pointer (some ⟨g, 0, none⟩)) ∧ w'.cell? ⟨z, 0, none⟩ = some (strV s) ∧ w'.cell? ⟨g, 1, none⟩ = some (.int .i64 d.room) ∧ Below w.heap.size w w')
        (first | assumption | exact ⟨x0, z0, c1, (Below.refl _ _).drew⟩ | exact (Below.refl _ _).drew | (have hh := ‹_ ∧ _ ∧ _ ∧ Below w.heap.size w _›; exact ⟨hh.1, hh.2.1, hh.2.2.1, hh.2.2.2.drew⟩) | exact wrS_step hXl hZl hGl (by assumption) hb | go_keep)
        (first | (go_at_call 29; (with_reducible refine (hU _ g L d N (HH.out.below (by have hh := ‹_ ∧ _ ∧ _ ∧ Below w.heap.size w _›; exact hh.2.2.2)) HK.out HB.out hN).mono ?_); rw [HU.out]; rintro e w1 ⟨rfl, hb⟩))
      go_wp2
      go_ret
      exact ⟨rfl, (‹_ ∧ _ ∧ _ ∧ Below w.heap.size w _›).2.2.2⟩
    · rw [if_neg hlt]
      have i2 : decide ((d.room : Int) < (u : Int) + (s.length : Int)) = false := by simp; omega
      go_enter Tryz.func89, Tryz.ntmps89
      go_wp2_with (first | (go_at_call 63; refine hC.mono ?_; rintro e w' ⟨rfl, rfl⟩; rw [errV_0]))
      go_region_held3 (fun w' => w'.cell? ⟨x, 0, none⟩ = some (.pointer (some ⟨g, 0, none⟩)) ∧ w'.cell? ⟨z, 0, none⟩ = some (strV s) ∧ w'.cell? ⟨g, 1, none⟩ = some (.int .i64 d.room) ∧ Below w.heap.size w w')
        (first | assumption | exact ⟨x0, z0, c1, (Below.refl _ _).drew⟩ | exact (Below.refl _ _).drew | (have hh := ‹_ ∧ _ ∧ _ ∧ Below w.heap.size w _›; exact ⟨hh.1, hh.2.1, hh.2.2.1, hh.2.2.2.drew⟩) | exact wrS_step hXl hZl hGl (by assumption) hb | go_keep)
        (first | (go_at_call 29; (with_reducible refine (hU _ g L d N (HH.out.below (by have hh := ‹_ ∧ _ ∧ _ ∧ Below w.heap.size w _›; exact hh.2.2.2)) HK.out HB.out hN).mono ?_); rw [HU.out]; rintro e w1 ⟨rfl, hb⟩))
      go_wp2
      go_ret
      exact ⟨rfl, (‹_ ∧ _ ∧ _ ∧ Below w.heap.size w _›).2.2.2⟩
  · rw [if_neg hq]
    have HQ := Lib.hid (errV_no hq)
    have HQ0 := Lib.hid hq
    clear hq h hk hb hx hy hz
    go_enter Tryz.func89, Tryz.ntmps89
    go_wp2_with (first | (go_at_call 63; refine hC.mono ?_; rintro e w' ⟨rfl, rfl⟩; rw [HQ.out]))
    go_ret
    exact ⟨by rw [HQ.out]; rfl, Below.refl _ _⟩
end Go.Proofs.YtfgpigblnkanpaaGreatDoor

namespace Go.Proofs.YtfgpigblnkanpaaGreatDoor
open Go.RowKit Go.Maps Go.Shelf

/-- What an operation leaves. -/
def ActPost (g : Nat) (L : Lay) (d' : Dk) (N : Nat) (Y : List Nat) (w : World) (e : Ending) (w' : World) : Prop :=
  e = .returned (.tuple #[]) ∧ ∃ L' : Lay, DiskIn w' g L' d' (N + 1) ∧ Stp (L.foot g ++ Y) (L'.foot g) w w'

set_option maxHeartbeats 1000000 in
set_option maxRecDepth 100000 in
theorem dkRemoveA_any (w : World) (g : Nat) (L : Lay) (d : Dk) (N x y : Nat) (n : Nm) (hn : n.length ≤ 9223372036854775807) (h : DiskIn w g L d N) (hk : DkOk d) (hb : DkB d N) (hN : N < 4294967296) (hx : Blk w x [.pointer (some ⟨g, 0, none⟩)] 29) (hy : Blk w y [strV n] 9) (hyf : y ∉ L.foot g) :
    Calls Tryz.prog 95 #[.pointer (some ⟨x, 0, none⟩), .pointer (some ⟨y, 0, none⟩)] w (ActPost g L (dact d false (.remove n)) N [y] w) := by
  have x0 := hx.cell 0
  have y0 := hy.cell 0
  simp only [List.getElem?_cons_zero] at x0 y0
  have hC := dknames_any w g L d N (.rm n) (.func (.func 96) #[] #[.pointer (some ⟨y, 0, none⟩)]) [y] h hk (by have := hb.safe; omega) (by omega) hn ⟨y, rfl, by simp, hy⟩ (by simpa using hy.lt) (by simpa using hyf)
  have hmf : ∀ (fn : Fn) (first cap : Array Value) (w : World), (Instr.makeFunc fn first cap).run Tryz.prog w = .ok (.func fn first cap) w := fun _ _ _ _ => rfl
  clear h hk hb hx hy
  go_enter Tryz.func95, Tryz.ntmps95
  go_wp2_with (go_at_call 87; refine hC.mono ?_; rintro e w' ⟨rfl, L', -, -, h1, h2⟩)
  have H1 := Lib.hid h1
  have H2 := Lib.hid h2
  go_end0
  exact ⟨rfl, L', H1.out, H2.out⟩
set_option maxHeartbeats 1000000 in
set_option maxRecDepth 100000 in
theorem dkRenameA_any (w : World) (g : Nat) (L : Lay) (d : Dk) (N x y z : Nat) (o n : Nm) (ho : o.length ≤ 9223372036854775807) (hn : n.length ≤ 9223372036854775807) (h : DiskIn w g L d N) (hk : DkOk d) (hb : DkB d N) (hN : N < 4294967296) (hx : Blk w x [.pointer (some ⟨g, 0, none⟩)] 29) (hy : Blk w y [strV o] 9) (hyf : y ∉ L.foot g) (hz : Blk w z [strV n] 9) (hzf : z ∉ L.foot g) :
    Calls Tryz.prog 92 #[.pointer (some ⟨x, 0, none⟩), .pointer (some ⟨y, 0, none⟩), .pointer (some ⟨z, 0, none⟩)] w (ActPost g L (dact d false (.rename o n)) N [y, z] w) := by
  have x0 := hx.cell 0
  have y0 := hy.cell 0
  have z0 := hz.cell 0
  simp only [List.getElem?_cons_zero] at x0 y0 z0
  have hC := dknames_any w g L d N (.rn o n) (.func (.func 93) #[] #[.pointer (some ⟨y, 0, none⟩), .pointer (some ⟨z, 0, none⟩)]) [y, z] h hk (by have := hb.safe; omega) (by omega) ⟨ho, hn⟩ ⟨y, z, rfl, by simp, by simp, hy, hz⟩ (by simpa using ⟨hy.lt, hz.lt⟩) (by simpa using ⟨hyf, hzf⟩)
  have hmf : ∀ (fn : Fn) (first cap : Array Value) (w : World), (Instr.makeFunc fn first cap).run Tryz.prog w = .ok (.func fn first cap) w := fun _ _ _ _ => rfl
  clear h hk hb hx hy hz
  go_enter Tryz.func92, Tryz.ntmps92
  go_wp2_with (go_at_call 87; refine hC.mono ?_; rintro e w' ⟨rfl, L', -, -, h1, h2⟩)
  have H1 := Lib.hid h1
  have H2 := Lib.hid h2
  go_end0
  exact ⟨rfl, L', H1.out, H2.out⟩

/-- A new file. -/
theorem DiskIn.newFile {w w' : World} {g : Nat} {L : Lay} {d : Dk} {N c : Nat} (h : DiskIn w g L d N) (hk : DkOk d) (hc : w.heap.size ≤ c) (hcb : Blk w' c (flCells ⟨[], 0⟩) 111) (hz : w.heap.size ≤ w'.heap.size) (hs : ∀ k, k < w.heap.size → w'.heap[k]? = w.heap[k]?) :
    DiskIn w' g { L with F := L.F ++ [c] } { d with files := d.files ++ [⟨[], 0⟩] } N := by
  have ap := h.apart
  have hlt := h.lt
  have h1 := h.kept hz (fun k hk => hs k (hlt k hk))
  have hne : ∀ k ∈ L.foot g, k ≠ c := fun k hk e => by have := hlt k hk; omega
  have hfb : ∀ i, i < L.F.length → fb (L.F ++ [c]) i = fb L.F i := fun i hi => by
    unfold fb
    rw [List.getD_eq_getElem?_getD, List.getD_eq_getElem?_getD, List.getElem?_append_left hi]
  refine ⟨h1.blk, h1.now.more (fun x hx => by rw [h.len]; exact hk.nowIn x hx) c, h1.safe.more (fun x hx => by rw [h.len]; exact hk.safeIn x hx) c, by simp [h.len], ?_, h1.row, ?_, h1.boxes, h1.fate, ?_⟩
  · intro i hi
    have hi' : i < d.files.length + 1 := by simpa using hi
    by_cases hlast : i = d.files.length
    · have e1 : fb (L.F ++ [c]) i = c := by
        unfold fb
        rw [hlast, ← h.len, List.getD_eq_getElem?_getD, List.getElem?_append_right (Nat.le_refl _)]; simp
      have e2 : fat (d.files ++ [⟨[], 0⟩]) i = ⟨[], 0⟩ := by
        unfold fat
        rw [hlast, List.getD_eq_getElem?_getD, List.getElem?_append_right (Nat.le_refl _)]; simp
      show Blk w' (fb (L.F ++ [c]) i) (flCells (fat (d.files ++ [⟨[], 0⟩]) i)) _
      rw [e1, e2]; exact hcb
    · have hi2 : i < d.files.length := by omega
      show Blk w' (fb (L.F ++ [c]) i) (flCells (fat (d.files ++ [⟨[], 0⟩]) i)) _
      rw [hfb i (by rw [h.len]; exact hi2), fat_append hi2]
      exact h1.files i hi2
  · have := h1.pend.more (fun n f hf => by rw [h.len]; exact hk.pendIn n f hf) [c] []
    simpa using this
  · have hcF : c ∉ L.F := fun e => hne c (foot_F e) rfl
    exact ⟨ap.gbn, ap.gbs, fun e => (List.mem_append.1 e).elim ap.gF (fun e => hne g foot_g (by simpa using e)), ap.gX, ap.gvp, ap.gvf, ap.nbs, fun e => (List.mem_append.1 e).elim ap.nF (fun e => hne _ foot_bn (by simpa using e)), ap.nX, ap.nvp, ap.nvf, fun e => (List.mem_append.1 e).elim ap.sF (fun e => hne _ foot_bs (by simpa using e)), ap.sX, ap.svp, ap.svf, List.nodup_append.2 ⟨ap.FF, by simp, fun a ha b hb e => by
        have hb' : b = c := by simpa using hb
        exact hcF (hb' ▸ e ▸ ha)⟩, fun k hk e => (List.mem_append.1 e).elim (ap.FX k hk) (fun e => hne k (foot_X hk) (by simpa using e)), fun k hk e => (List.mem_append.1 e).elim (ap.Fvp k hk) (fun e => hne k (foot_vp hk) (by simpa using e)), fun k hk e => (List.mem_append.1 e).elim (ap.Fvf k hk) (fun e => hne k (foot_vf hk) (by simpa using e)), ap.Xvp, ap.pf⟩
theorem DkOk.newFile {d : Dk} (h : DkOk d) : DkOk { d with files := d.files ++ [⟨[], 0⟩] } :=
  ⟨h.now, h.safe, fun x hx => by have := h.nowIn x hx; show x.2 < (d.files ++ [_]).length; simp; omega, fun x hx => by have := h.safeIn x hx; show x.2 < (d.files ++ [_]).length; simp; omega, fun n f hf => by have := h.pendIn n f hf; show f < (d.files ++ [_]).length; simp; omega, fun f hf => by
    rcases List.mem_append.1 hf with hf | hf
    · exact h.safeLe f hf
    · have e : f = ⟨[], 0⟩ := by simpa using hf
      rw [e]; exact Nat.le_refl _⟩
theorem DkB.newFile {d : Dk} {N : Nat} (h : DkB d N) : DkB { d with files := d.files ++ [⟨[], 0⟩] } (N + 1) :=
  ⟨by have := h.files; show (d.files ++ [(⟨[], 0⟩ : Fl)]).length ≤ _; simp; omega, by have := h.now; show d.now.length ≤ _; omega, by have := h.safe; show d.safe.length + d.pend.length ≤ _; omega, h.room, fun f hf => by
    rcases List.mem_append.1 hf with hf | hf
    · exact h.data f hf
    · have e : f = ⟨[], 0⟩ := by simpa using hf
      rw [e]; exact Nat.zero_le _, h.armed, h.fate, h.pend⟩

set_option maxHeartbeats 1000000 in
set_option maxRecDepth 100000 in
theorem dkCreateA_any (w : World) (g : Nat) (L : Lay) (d : Dk) (N x y : Nat) (n : Nm) (hn : n.length ≤ 9223372036854775807) (h : DiskIn w g L d N) (hk : DkOk d) (hb : DkB d N) (hN : N < 4294967296) (hx : Blk w x [.pointer (some ⟨g, 0, none⟩)] 29) (hy : Blk w y [strV n] 9) (hyf : y ∉ L.foot g) :
    Calls Tryz.prog 86 #[.pointer (some ⟨x, 0, none⟩), .pointer (some ⟨y, 0, none⟩)] w (ActPost g L (dact d false (.create n)) N [y] w) := by
  have x0 := hx.cell 0
  have y0 := hy.cell 0
  simp only [List.getElem?_cons_zero] at x0 y0
  have hxl := hx.lt
  have hmf : ∀ (fn : Fn) (first cap : Array Value) (w : World), (Instr.makeFunc fn first cap).run Tryz.prog w = .ok (.func fn first cap) w := fun _ _ _ _ => rfl
  have HH := Lib.hid h
  have HK := Lib.hid hk
  have HB := Lib.hid hb
  have HY := Lib.hid hy
  clear h hk hb hx hy
  go_enter Tryz.func86, Tryz.ntmps86
  go_wp2_with (fail)
  have hb1 : Blk ((w.alloc (.cells #[.string { data := #[] }, .int .i64 0] 111)).alloc (.cells #[.pointer (some ⟨w.heap.size, 0, none⟩)] 107)) w.heap.size (flCells ⟨[], 0⟩) 111 := (Blk.new w (flCells ⟨[], 0⟩) 111).alloc _
  have hb2 : Blk ((w.alloc (.cells #[.string { data := #[] }, .int .i64 0] 111)).alloc (.cells #[.pointer (some ⟨w.heap.size, 0, none⟩)] 107)) (w.heap.size + 1) [.pointer (some ⟨w.heap.size, 0, none⟩)] 107 := by
    have := Blk.new (w.alloc (.cells #[.string { data := #[] }, .int .i64 0] 111)) [.pointer (some ⟨w.heap.size, 0, none⟩)] 107
    rwa [World.size_alloc] at this
  have hS : Below w.heap.size w ((w.alloc (.cells #[.string { data := #[] }, .int .i64 0] 111)).alloc (.cells #[.pointer (some ⟨w.heap.size, 0, none⟩)] 107)) := ((Below.refl _ w).alloc (Nat.le_refl _) _).alloc (by simp) _
  have hsz : ((w.alloc (.cells #[.string { data := #[] }, .int .i64 0] 111)).alloc (.cells #[.pointer (some ⟨w.heap.size, 0, none⟩)] 107)).heap.size = w.heap.size + 2 := by simp
  generalize ((w.alloc (.cells #[.string { data := #[] }, .int .i64 0] 111)).alloc (.cells #[.pointer (some ⟨w.heap.size, 0, none⟩)] 107)) = w2 at *
  have hlt := HH.out.lt
  have hn1 := HH.out.newFile HK.out (Nat.le_refl _) hb1 hS.size hS.block
  have hv : PnAt w2 (L.F ++ [w.heap.size]) (L.X ++ [w.heap.size + 1, y]) (.cr n d.files.length) (.func (.func 88) #[] #[.pointer (some ⟨w.heap.size + 1, 0, none⟩), .pointer (some ⟨y, 0, none⟩)]) := by
    refine ⟨w.heap.size + 1, y, rfl, by simp, by simp, ?_, HY.out.below hS HY.out.lt⟩
    have e1 : fb (L.F ++ [w.heap.size]) d.files.length = w.heap.size := by
      unfold fb
      rw [← HH.out.len, List.getD_eq_getElem?_getD, List.getElem?_append_right (Nat.le_refl _)]; simp
    rw [e1]; exact hb2
  have hfoot : ∀ k, k ∈ ({ L with F := L.F ++ [w.heap.size] } : Lay).foot g → k ∈ L.foot g ∨ k = w.heap.size := fun k hk => by
    rcases foot_cases hk with rfl | rfl | rfl | hk | hk | hk | hk
    · exact Or.inl foot_g
    · exact Or.inl foot_bn
    · exact Or.inl foot_bs
    · rcases List.mem_append.1 hk with hk | hk
      · exact Or.inl (foot_F hk)
      · exact Or.inr (by simpa using hk)
    · exact Or.inl (foot_X hk)
    · exact Or.inl (foot_vp hk)
    · exact Or.inl (foot_vf hk)
  have hC := dknames_any w2 g { L with F := L.F ++ [w.heap.size] } { d with files := d.files ++ [⟨[], 0⟩] } N (.cr n d.files.length) _ [w.heap.size + 1, y] hn1 HK.out.newFile (by have := HB.out.safe; show d.pend.length < _; omega) (by omega) hn hv
    (by
      intro k hk
      rcases List.mem_cons.1 hk with rfl | hk
      · omega
      · have e : k = y := by simpa using hk
        have := HY.out.lt
        omega)
    (by
      intro k hk hm
      rcases List.mem_cons.1 hk with rfl | hk
      · rcases hfoot _ hm with h1 | h1
        · have := hlt _ h1; omega
        · omega
      · have e : k = y := by simpa using hk
        subst e
        rcases hfoot _ hm with h1 | h1
        · exact hyf h1
        · have := HY.out.lt; omega)
  have HS := Lib.hid hS
  have HF := Lib.hid hfoot
  clear hb1 hb2 hS hlt hn1 hv hfoot
  refine hC.mono ?_
  rintro e w3 ⟨rfl, L', -, -, h1, h2⟩
  have H1 := Lib.hid h1
  have H2 := Lib.hid h2
  clear h1 h2
  go_wp2
  go_end0
  refine ⟨rfl, L', H1.out, ?_⟩
  have st := H2.out
  have sb := HS.out
  exact ⟨st.os.trans sb.os, st.tape.trans sb.tape, st.output.trans sb.output, Nat.le_trans sb.size st.size, fun k hk hA => (st.block k (Nat.lt_of_lt_of_le hk sb.size) (fun hm => by
      rcases List.mem_append.1 hm with hm | hm
      · rcases HF.out k hm with h1 | h1
        · exact hA (List.mem_append_left _ h1)
        · omega
      · rcases List.mem_cons.1 hm with h1 | h1
        · omega
        · exact hA (List.mem_append_right _ h1))).trans (sb.block k hk), fun k hk => by
      rcases st.inn k hk with hm | hm
      · rcases List.mem_append.1 hm with hm | hm
        · rcases HF.out k hm with h1 | h1
          · exact Or.inl (List.mem_append_left _ h1)
          · exact Or.inr (by omega)
        · rcases List.mem_cons.1 hm with h1 | h1
          · exact Or.inr (by omega)
          · exact Or.inl (List.mem_append_right _ h1)
      · exact Or.inr (Nat.le_trans sb.size hm)⟩
end Go.Proofs.YtfgpigblnkanpaaGreatDoor
