/- The walk of an operation on names: the table of now, and what waits. -/
import Derived.Test.YtfgpigblnkanpaaGreatDwA
import Derived.Deep.AppendLies
import Derived.Laws.EntriesVeiled
namespace Go.Proofs.YtfgpigblnkanpaaGreat
open Go.RowKit Go.Maps Go.Shelf

theorem infoPn : (Tryz.prog.info? 67).map (fun i => (i.zero, i.size, i.bytes)) = some (some .nilFunc, 1, 8) := by kernel_rfl

/-- Behind the append: what waits has one more. -/
theorem DiskIn.pended {w w1 w2 : World} {g : Nat} {L : Lay} {d d1 : Dk} {N gg cap : Nat} {p : Pn} {v : Value} {X' : List Nat} {o : Obj} (h1 : DiskIn w1 g L d1 (N + 1)) (hd : d1.pend = d.pend) (hsafe : MapIs w1 L.bs d1.safe L.F (N - d.pend.length))
    (hgrow : (w1.alloc o).grownBy w2 L.vp.ownBlock) (hown : w2.ownsRow 0 67 1 (.slice (some ⟨gg, 0, none⟩) (L.vs.length + 1) cap) (L.vs.length + 1) (L.vs ++ [v])) (hat : L.vp.ownBlock = some gg ∨ gg = w1.heap.size + 1)
    (hv : PnAt w L.F (L.X ++ X') p v) (hlt : ∀ k ∈ L.foot g, k < w.heap.size) (ap : Apt L g) (hX1 : ∀ x ∈ X', x < w.heap.size) (hX2 : ∀ x ∈ X', x ∉ L.foot g) (hS : Stp (L.foot g) (L.foot g) w w1) (hgs : ∀ k ∈ L.foot g, k ≠ L.bn → w1.heap[k]? = w.heap[k]?) :
    DiskIn (w2.setCell ⟨g, 4, none⟩ (.slice (some ⟨gg, 0, none⟩) (L.vs.length + 1) cap)) g { L with X := L.X ++ X', vs := L.vs ++ [v], vp := .slice (some ⟨gg, 0, none⟩) (L.vs.length + 1) cap } { d1 with pend := d1.pend ++ [p] } (N + 1) ∧
      Stp (L.foot g ++ X') ({ L with X := L.X ++ X', vs := L.vs ++ [v], vp := .slice (some ⟨gg, 0, none⟩) (L.vs.length + 1) cap : Lay }.foot g) w (w2.setCell ⟨g, 4, none⟩ (.slice (some ⟨gg, 0, none⟩) (L.vs.length + 1) cap)) := by
  have hz1 : w.heap.size ≤ w1.heap.size := hS.size
  have hza : (w1.alloc o).heap.size = w1.heap.size + 1 := by simp
  have hz2 : w1.heap.size + 1 ≤ w2.heap.size := by have := hgrow.size; omega
  have hz3 : ∀ u, (w2.setCell ⟨g, 4, none⟩ u).heap.size = w2.heap.size := fun u => by simp [World.setCell]
  -- a block of the first world other than g and the row of what waits is as it was
  have hk1 : ∀ k, k < w1.heap.size → k ≠ g → L.vp.ownBlock ≠ some k → ∀ u, (w2.setCell ⟨g, 4, none⟩ u).heap[k]? = w1.heap[k]? := fun k hk hg hv u => by
    rw [Below.heap_setCell _ _ _ _ hg, hgrow.block k (by omega) (fun e => hv e.symm), Below.heap_alloc _ _ _ hk]
  have hlt1 : ∀ k ∈ L.foot g, k < w1.heap.size := fun k hk => by have := hlt k hk; omega
  have hgg : ∀ k ∈ L.foot g, L.vp.ownBlock ≠ some k → k ≠ gg := fun k hk hne e => by
    rcases hat with h | h
    · exact hne (e ▸ h)
    · have := hlt1 k hk; omega
  have hggX : ∀ k ∈ X', k ≠ gg := fun k hk e => by
    rcases hat with h | h
    · exact hX2 k hk (foot_vp (e ▸ h))
    · have := hX1 k hk; omega
  have hXg : ∀ x ∈ X', x ≠ g := fun x hx e => hX2 x hx (e ▸ foot_g)
  have hXv : ∀ x ∈ X', L.vp.ownBlock ≠ some x := fun x hx e => hX2 x hx (foot_vp e)
  have hXk : ∀ x ∈ X', ∀ u, (w2.setCell ⟨g, 4, none⟩ u).heap[x]? = w.heap[x]? := fun x hx u =>
    (hk1 x (by have := hX1 x hx; omega) (hXg x hx) (hXv x hx) u).trans (hS.block x (hX1 x hx) (hX2 x hx))
  have hLX : ∀ x ∈ L.X, ∀ u, (w2.setCell ⟨g, 4, none⟩ u).heap[x]? = w1.heap[x]? := fun x hx u =>
    hk1 x (hlt1 x (foot_X hx)) (fun e => ap.gX (e ▸ hx)) (fun e => ap.Xvp x e hx) u
  have hpn := h1.pend
  rw [hd] at hpn
  refine ⟨⟨?_, ?_, ?_, h1.len, ?_, ?_, ?_, ?_, ?_, ?_⟩, ?_⟩
  · have hb2 : Blk w2 g (dkCells L d1) 47 := (h1.blk.alloc o).same (hgrow.block g (by have := h1.blk.lt; omega) (fun e => ap.gvp g e.symm rfl))
    exact hb2.set 4 _
  · exact h1.now.same (hk1 _ (hlt1 _ foot_bn) ap.gbn.symm (fun e => ap.nvp _ e rfl) _)
  · have := hsafe.same (hk1 _ (hlt1 _ foot_bs) ap.gbs.symm (fun e => ap.svp _ e rfl) (.slice (some ⟨gg, 0, none⟩) (L.vs.length + 1) cap))
    refine this.mono ?_
    rw [hd, List.length_append]
    simp
  · intro i hi
    have hm := getD_mem (F := L.F) (i := i) (by rw [h1.len]; exact hi)
    exact (h1.files i hi).same (hk1 _ (hlt1 _ (foot_F hm)) (fun e => ap.gF (e ▸ hm)) (fun e => ap.Fvp _ e hm) _)
  · have e1 : (L.vs ++ [v]).length = L.vs.length + 1 := by simp
    show World.ownsRow _ 0 _ 1 _ (L.vs ++ [v]).length (L.vs ++ [v])
    rw [e1]
    refine ownsRow_same hown fun k hk => ?_
    have e2 : gg = k := by simpa [Value.ownBlock] using hk
    subst e2
    refine Below.heap_setCell _ _ _ _ fun e => ?_
    rcases hat with h | h
    · exact ap.gvp gg h e.symm
    · have := hlt1 g foot_g
      have e' : gg = g := e
      omega
  · rw [hd]
    refine PnsAt.snoc (hv.same fun k hk => ?_) ?_
    · rcases List.mem_append.1 hk with hk | hk
      · exact (hLX k hk _).trans (hgs k (foot_X hk) (fun e => ap.nX (e ▸ hk)))
      · exact hXk k hk _
    · have := hpn.same (w' := w2.setCell ⟨g, 4, none⟩ (.slice (some ⟨gg, 0, none⟩) (L.vs.length + 1) cap)) (fun k hk => hLX k hk _)
      exact this.wider X'
  · intro x hx
    rw [hz3]
    rcases List.mem_append.1 hx with hx | hx
    · have := hlt1 x (foot_X hx); omega
    · have := hX1 x hx; omega
  · exact ownsRow_same h1.fate fun k hk => hk1 k (hlt1 k (foot_vf hk)) (fun e => ap.gvf k hk e.symm) (fun e => ap.pf k e hk) _
  · have hself : ∀ k, Value.ownBlock (.slice (some ⟨gg, 0, none⟩) (L.vs.length + 1) cap) = some k → k = gg := fun k hk => (by simpa [Value.ownBlock] using hk : gg = k).symm
    exact ⟨ap.gbn, ap.gbs, ap.gF, fun h => (List.mem_append.1 h).elim ap.gX (fun h => hXg g h rfl), fun k hk e => hgg g foot_g (fun e2 => ap.gvp g e2 rfl) (e.trans (hself k hk)), ap.gvf, ap.nbs, ap.nF, fun h => (List.mem_append.1 h).elim ap.nX (fun h => hX2 _ h foot_bn), fun k hk e => hgg _ foot_bn (fun e2 => ap.nvp _ e2 rfl) (e.trans (hself k hk)), ap.nvf, ap.sF, fun h => (List.mem_append.1 h).elim ap.sX (fun h => hX2 _ h foot_bs), fun k hk e => hgg _ foot_bs (fun e2 => ap.svp _ e2 rfl) (e.trans (hself k hk)), ap.svf, ap.FF, fun k hk => (List.mem_append.1 hk).elim (ap.FX k) (fun h hF => hX2 k h (foot_F hF)), fun k hk hF => hgg k (foot_F hF) (fun e2 => ap.Fvp k e2 hF) (hself k hk), ap.Fvf, fun k hk hX => (List.mem_append.1 hX).elim (fun h => hgg k (foot_X h) (fun e2 => ap.Xvp k e2 h) (hself k hk)) (fun h => hggX k h (hself k hk)), fun k hk e => hgg k (foot_vf e) (fun e2 => ap.pf k e2 e) (hself k hk)⟩
  · refine ⟨(hgrow.os).trans hS.os, (hgrow.tape).trans hS.tape, (hgrow.output).trans hS.output, by rw [hz3]; omega, fun k hk hA => ?_, fun k hk => ?_⟩
    · have hA1 : k ∉ L.foot g := fun e => hA (List.mem_append_left _ e)
      exact (hk1 k (by omega) (fun e => hA1 (e ▸ foot_g)) (fun e => hA1 (foot_vp e)) _).trans (hS.block k hk hA1)
    · rcases foot_cases hk with rfl | rfl | rfl | hk | hk | hk | hk
      · exact Or.inl (List.mem_append_left _ foot_g)
      · exact Or.inl (List.mem_append_left _ foot_bn)
      · exact Or.inl (List.mem_append_left _ foot_bs)
      · exact Or.inl (List.mem_append_left _ (foot_F hk))
      · rcases List.mem_append.1 hk with hk | hk
        · exact Or.inl (List.mem_append_left _ (foot_X hk))
        · exact Or.inl (List.mem_append_right _ hk)
      · have e2 : gg = k := by simpa [Value.ownBlock] using hk
        subst e2
        rcases hat with h | h
        · exact Or.inl (List.mem_append_left _ (foot_vp h))
        · exact Or.inr (by omega)
      · exact Or.inl (List.mem_append_left _ (foot_vf hk))

def NamesPost (g : Nat) (L : Lay) (d : Dk) (N : Nat) (p : Pn) (X' : List Nat) (w : World) (e : Ending) (w' : World) : Prop :=
  e = .returned (.tuple #[]) ∧ ∃ L' : Lay, L'.F = L.F ∧ L'.X = L.X ++ X' ∧ DiskIn w' g L' { d with now := tdone d.now p, pend := d.pend ++ [p] } (N + 1) ∧ Stp (L.foot g ++ X') (L'.foot g) w w'
set_option maxHeartbeats 2000000 in
set_option maxRecDepth 100000 in
theorem dknames_any (w : World) (g : Nat) (L : Lay) (d : Dk) (N : Nat) (p : Pn) (v : Value) (X' : List Nat) (h : DiskIn w g L d N) (hk : DkOk d) (hb : d.pend.length < 1099511627776) (hN : N < 1099511627776) (hp : pnOk p) (hv : PnAt w L.F (L.X ++ X') p v)
    (hX1 : ∀ x ∈ X', x < w.heap.size) (hX2 : ∀ x ∈ X', x ∉ L.foot g) :
    Calls Tryz.prog 29 #[.pointer (some ⟨g, 0, none⟩), v] w (NamesPost g L d N p X' w) := by
  obtain ⟨c0, c1, c2, c3, c4, c5, c6⟩ := h.cells
  obtain ⟨fr, cr, rfl, her, hcall⟩ := hv.call hp
  have hC := Lib.hid (hcall L.bn d.now N h.now hk.now (by omega))
  clear hcall
  obtain ⟨i0, hi, hz0, hz1, hz2⟩ := info_parts infoPn
  have ap := h.apart
  have hlt := h.lt
  have hlen : L.vs.length = d.pend.length := h.pend.len
  have hpl : L.vs.length < 1099511627776 := by omega
  have AP := Lib.hid ap
  have LT := Lib.hid hlt
  have LE := Lib.hid hlen
  have HH := Lib.hid h
  have HV := Lib.hid hv
  clear ap hlt hlen h hv
  go_enter Tryz.func29, Tryz.ntmps29
  go_wp2_with (fail)
  refine hC.out.mono ?_
  rintro e w1 ⟨rfl, hm1, hg1⟩
  have hgs : ∀ k ∈ L.foot g, k ≠ L.bn → w1.heap[k]? = w.heap[k]? := fun k hk hne => hg1.block k (LT.out k hk) (fun e => hne (by simpa using e))
  have h1 : DiskIn w1 g L { d with now := tdone d.now p } (N + 1) := HH.out.setNow (Nat.le_succ N) hm1 hg1.size hgs
  obtain ⟨e0, e1, e2, e3, e4, e5, e6⟩ := h1.cells
  have fz := h1.blk.free 4
  have row := h1.row
  have S1 : Stp (L.foot g) (L.foot g) w w1 := Stp.of_grown hg1 (fun k hk => (by
    have e : L.bn = k := (by simpa using hk)
    exact e ▸ foot_bn)) (fun k hk => Or.inl hk)
  have H1 := Lib.hid h1
  have HM := Lib.hid hm1
  have HG := Lib.hid hg1
  have HGS := Lib.hid hgs
  have HS := Lib.hid S1
  have hgl : g < w1.heap.size := h1.blk.lt
  clear h1 hm1 hg1 hgs S1
  go_wp2_with (at_builtin; refine wpList_append_lies _ rfl (.tmp 14) (.tmp 16) 45 rfl 0 67 i0 .nilFunc 1 8 Tryz.underlying45 hi hz0 hz1 hz2 rfl (by decide) L.vp L.vs.length L.vs rfl (row.alloc _) ⟨w1.heap.size, 0, none⟩ 1 1 [.func (.func fr) #[] cr] rfl rfl (World.news_of_block (cs := #[.func (.func fr) #[] cr]) (t := 67) (fr := (0, 0)) (heap_alloc_new w1 _)) ?c1 (by omega) ?c2 ?c3 (Nat.zero_le _) (w1.heap.size + 1) (by simp) ?_)
  case c1 => intro u hu; simp at hu; subst hu; rfl
  case c2 => unfold maxLen; omega
  case c3 => omega
  intro gg cap w2 hown hgrow hat hlt2
  have hgvp : some g ≠ L.vp.ownBlock := fun e => AP.out.gvp g e.symm rfl
  have k4 : w2.cell? ⟨g, 4, none⟩ = some L.vp := (hgrow.cell_far ⟨g, 4, none⟩ (by simp; omega) hgvp).trans ((World.cell?_alloc_past _ _ _ hgl).trans e4)
  have f4 : w2.frozen? ⟨g, 4, none⟩ = false := by
    rw [hgrow.frozen_far ⟨g, 4, none⟩ (by simp; omega) hgvp]
    exact (World.frozen?_of_block (w := w1) (Below.heap_alloc _ _ _ hgl)).trans fz
  have R := Lib.hid (DiskIn.pended (p := p) (v := .func (.func fr) #[] cr) H1.out (N := N) rfl (HH.out.safe.same (HGS.out _ foot_bs AP.out.nbs.symm)) hgrow hown hat HV.out LT.out AP.out hX1 hX2 HS.out HGS.out)
  clear hown hgrow hat row e0 e1 e2 e3 e4 e5 e6 fz hgvp hX1 hX2
  go_wp2
  go_end0
  exact ⟨rfl, ⟨L.bn, L.bs, L.F, L.X ++ X', L.vs ++ [.func (.func fr) #[] cr], .slice (some ⟨gg, 0, none⟩) (L.vs.length + 1) cap, L.vf⟩, rfl, rfl, R.out⟩
end Go.Proofs.YtfgpigblnkanpaaGreat
