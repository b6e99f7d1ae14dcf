/- The walks of what an operation of a disk does: Create, Rename, Remove. -/
import Derived.Test.YtfgpigblnkanpaaGreatDwU
import Derived.Laws.NewBlocks
namespace Go.Proofs.YtfgpigblnkanpaaGreat
open Go.RowKit Go.Maps Go.Shelf

/-- What an operation leaves. -/
def ActPost (g : Nat) (L : Lay) (d' : Dk) (N : Nat) (Y : List Nat) (w : World) (e : Ending) (w' : World) : Prop :=
  e = .returned (.tuple #[]) ∧ ∃ L' : Lay, DiskIn w' g L' d' (N + 1) ∧ Stp (L.foot g ++ Y) (L'.foot g) w w'

set_option maxHeartbeats 1000000 in
set_option maxRecDepth 100000 in
theorem dkRemoveA_any (w : World) (g : Nat) (L : Lay) (d : Dk) (N x y : Nat) (n : Nm) (hn : n.length ≤ 9223372036854775807) (h : DiskIn w g L d N) (hk : DkOk d) (hb : DkB d N) (hN : N < 4294967296) (hx : Blk w x [.pointer (some ⟨g, 0, none⟩)] 24) (hy : Blk w y [strV n] 9) (hyf : y ∉ L.foot g) :
    Calls Tryz.prog 53 #[.pointer (some ⟨x, 0, none⟩), .pointer (some ⟨y, 0, none⟩)] w (ActPost g L (dact d false (.remove n)) N [y] w) := by
  have x0 := hx.cell 0
  have y0 := hy.cell 0
  simp only [List.getElem?_cons_zero] at x0 y0
  have hC := dknames_any w g L d N (.rm n) (.func (.func 54) #[] #[.pointer (some ⟨y, 0, none⟩)]) [y] h hk (by have := hb.safe; omega) (by omega) hn ⟨y, rfl, by simp, hy⟩ (by simpa using hy.lt) (by simpa using hyf)
  have hmf : ∀ (fn : Fn) (first cap : Array Value) (w : World), (Instr.makeFunc fn first cap).run Tryz.prog w = .ok (.func fn first cap) w := fun _ _ _ _ => rfl
  clear h hk hb hx hy
  go_enter Tryz.func53, Tryz.ntmps53
  go_wp2_with (go_at_call 29; refine hC.mono ?_; rintro e w' ⟨rfl, L', -, -, h1, h2⟩)
  have H1 := Lib.hid h1
  have H2 := Lib.hid h2
  go_end0
  exact ⟨rfl, L', H1.out, H2.out⟩
set_option maxHeartbeats 1000000 in
set_option maxRecDepth 100000 in
theorem dkRenameA_any (w : World) (g : Nat) (L : Lay) (d : Dk) (N x y z : Nat) (o n : Nm) (ho : o.length ≤ 9223372036854775807) (hn : n.length ≤ 9223372036854775807) (h : DiskIn w g L d N) (hk : DkOk d) (hb : DkB d N) (hN : N < 4294967296) (hx : Blk w x [.pointer (some ⟨g, 0, none⟩)] 24) (hy : Blk w y [strV o] 9) (hyf : y ∉ L.foot g) (hz : Blk w z [strV n] 9) (hzf : z ∉ L.foot g) :
    Calls Tryz.prog 74 #[.pointer (some ⟨x, 0, none⟩), .pointer (some ⟨y, 0, none⟩), .pointer (some ⟨z, 0, none⟩)] w (ActPost g L (dact d false (.rename o n)) N [y, z] w) := by
  have x0 := hx.cell 0
  have y0 := hy.cell 0
  have z0 := hz.cell 0
  simp only [List.getElem?_cons_zero] at x0 y0 z0
  have hC := dknames_any w g L d N (.rn o n) (.func (.func 75) #[] #[.pointer (some ⟨y, 0, none⟩), .pointer (some ⟨z, 0, none⟩)]) [y, z] h hk (by have := hb.safe; omega) (by omega) ⟨ho, hn⟩ ⟨y, z, rfl, by simp, by simp, hy, hz⟩ (by simpa using ⟨hy.lt, hz.lt⟩) (by simpa using ⟨hyf, hzf⟩)
  have hmf : ∀ (fn : Fn) (first cap : Array Value) (w : World), (Instr.makeFunc fn first cap).run Tryz.prog w = .ok (.func fn first cap) w := fun _ _ _ _ => rfl
  clear h hk hb hx hy hz
  go_enter Tryz.func74, Tryz.ntmps74
  go_wp2_with (go_at_call 29; refine hC.mono ?_; rintro e w' ⟨rfl, L', -, -, h1, h2⟩)
  have H1 := Lib.hid h1
  have H2 := Lib.hid h2
  go_end0
  exact ⟨rfl, L', H1.out, H2.out⟩

/-- A new file. -/
theorem DiskIn.newFile {w w' : World} {g : Nat} {L : Lay} {d : Dk} {N c : Nat} (h : DiskIn w g L d N) (hk : DkOk d) (hc : w.heap.size ≤ c) (hcb : Blk w' c (flCells ⟨[], 0⟩) 62) (hz : w.heap.size ≤ w'.heap.size) (hs : ∀ k, k < w.heap.size → w'.heap[k]? = w.heap[k]?) :
    DiskIn w' g { L with F := L.F ++ [c] } { d with files := d.files ++ [⟨[], 0⟩] } N := by
  have ap := h.apart
  have hlt := h.lt
  have h1 := h.kept hz (fun k hk => hs k (hlt k hk))
  have hne : ∀ k ∈ L.foot g, k ≠ c := fun k hk e => by have := hlt k hk; omega
  have hfb : ∀ i, i < L.F.length → fb (L.F ++ [c]) i = fb L.F i := fun i hi => by
    unfold fb
    rw [List.getD_eq_getElem?_getD, List.getD_eq_getElem?_getD, List.getElem?_append_left hi]
  refine ⟨h1.blk, h1.now.more (fun x hx => by rw [h.len]; exact hk.nowIn x hx) c, h1.safe.more (fun x hx => by rw [h.len]; exact hk.safeIn x hx) c, by simp [h.len], ?_, h1.row, ?_, h1.boxes, h1.fate, ?_⟩
  · intro i hi
    have hi' : i < d.files.length + 1 := by simpa using hi
    by_cases hlast : i = d.files.length
    · have e1 : fb (L.F ++ [c]) i = c := by
        unfold fb
        rw [hlast, ← h.len, List.getD_eq_getElem?_getD, List.getElem?_append_right (Nat.le_refl _)]; simp
      have e2 : fat (d.files ++ [⟨[], 0⟩]) i = ⟨[], 0⟩ := by
        unfold fat
        rw [hlast, List.getD_eq_getElem?_getD, List.getElem?_append_right (Nat.le_refl _)]; simp
      show Blk w' (fb (L.F ++ [c]) i) (flCells (fat (d.files ++ [⟨[], 0⟩]) i)) _
      rw [e1, e2]; exact hcb
    · have hi2 : i < d.files.length := by omega
      show Blk w' (fb (L.F ++ [c]) i) (flCells (fat (d.files ++ [⟨[], 0⟩]) i)) _
      rw [hfb i (by rw [h.len]; exact hi2), fat_append hi2]
      exact h1.files i hi2
  · have := h1.pend.more (fun n f hf => by rw [h.len]; exact hk.pendIn n f hf) [c] []
    simpa using this
  · have hcF : c ∉ L.F := fun e => hne c (foot_F e) rfl
    exact ⟨ap.gbn, ap.gbs, fun e => (List.mem_append.1 e).elim ap.gF (fun e => hne g foot_g (by simpa using e)), ap.gX, ap.gvp, ap.gvf, ap.nbs, fun e => (List.mem_append.1 e).elim ap.nF (fun e => hne _ foot_bn (by simpa using e)), ap.nX, ap.nvp, ap.nvf, fun e => (List.mem_append.1 e).elim ap.sF (fun e => hne _ foot_bs (by simpa using e)), ap.sX, ap.svp, ap.svf, List.nodup_append.2 ⟨ap.FF, by simp, fun a ha b hb e => by
        have hb' : b = c := by simpa using hb
        exact hcF (hb' ▸ e ▸ ha)⟩, fun k hk e => (List.mem_append.1 e).elim (ap.FX k hk) (fun e => hne k (foot_X hk) (by simpa using e)), fun k hk e => (List.mem_append.1 e).elim (ap.Fvp k hk) (fun e => hne k (foot_vp hk) (by simpa using e)), fun k hk e => (List.mem_append.1 e).elim (ap.Fvf k hk) (fun e => hne k (foot_vf hk) (by simpa using e)), ap.Xvp, ap.pf⟩
theorem DkOk.newFile {d : Dk} (h : DkOk d) : DkOk { d with files := d.files ++ [⟨[], 0⟩] } :=
  ⟨h.now, h.safe, fun x hx => by have := h.nowIn x hx; show x.2 < (d.files ++ [_]).length; simp; omega, fun x hx => by have := h.safeIn x hx; show x.2 < (d.files ++ [_]).length; simp; omega, fun n f hf => by have := h.pendIn n f hf; show f < (d.files ++ [_]).length; simp; omega, fun f hf => by
    rcases List.mem_append.1 hf with hf | hf
    · exact h.safeLe f hf
    · have e : f = ⟨[], 0⟩ := by simpa using hf
      rw [e]; exact Nat.le_refl _⟩
theorem DkB.newFile {d : Dk} {N : Nat} (h : DkB d N) : DkB { d with files := d.files ++ [⟨[], 0⟩] } (N + 1) :=
  ⟨by have := h.files; show (d.files ++ [(⟨[], 0⟩ : Fl)]).length ≤ _; simp; omega, by have := h.now; show d.now.length ≤ _; omega, by have := h.safe; show d.safe.length + d.pend.length ≤ _; omega, h.room, fun f hf => by
    rcases List.mem_append.1 hf with hf | hf
    · exact h.data f hf
    · have e : f = ⟨[], 0⟩ := by simpa using hf
      rw [e]; exact Nat.zero_le _, h.armed, h.fate, h.pend⟩

set_option maxHeartbeats 1000000 in
set_option maxRecDepth 100000 in
theorem dkCreateA_any (w : World) (g : Nat) (L : Lay) (d : Dk) (N x y : Nat) (n : Nm) (hn : n.length ≤ 9223372036854775807) (h : DiskIn w g L d N) (hk : DkOk d) (hb : DkB d N) (hN : N < 4294967296) (hx : Blk w x [.pointer (some ⟨g, 0, none⟩)] 24) (hy : Blk w y [strV n] 9) (hyf : y ∉ L.foot g) :
    Calls Tryz.prog 28 #[.pointer (some ⟨x, 0, none⟩), .pointer (some ⟨y, 0, none⟩)] w (ActPost g L (dact d false (.create n)) N [y] w) := by
  have x0 := hx.cell 0
  have y0 := hy.cell 0
  simp only [List.getElem?_cons_zero] at x0 y0
  have hxl := hx.lt
  have hmf : ∀ (fn : Fn) (first cap : Array Value) (w : World), (Instr.makeFunc fn first cap).run Tryz.prog w = .ok (.func fn first cap) w := fun _ _ _ _ => rfl
  have HH := Lib.hid h
  have HK := Lib.hid hk
  have HB := Lib.hid hb
  have HY := Lib.hid hy
  clear h hk hb hx hy
  go_enter Tryz.func28, Tryz.ntmps28
  go_wp2_with (fail)
  have hb1 : Blk ((w.alloc (.cells #[.string { data := #[] }, .int .i64 0] 62)).alloc (.cells #[.pointer (some ⟨w.heap.size, 0, none⟩)] 63)) w.heap.size (flCells ⟨[], 0⟩) 62 := (Blk.new w (flCells ⟨[], 0⟩) 62).alloc _
  have hb2 : Blk ((w.alloc (.cells #[.string { data := #[] }, .int .i64 0] 62)).alloc (.cells #[.pointer (some ⟨w.heap.size, 0, none⟩)] 63)) (w.heap.size + 1) [.pointer (some ⟨w.heap.size, 0, none⟩)] 63 := by
    have := Blk.new (w.alloc (.cells #[.string { data := #[] }, .int .i64 0] 62)) [.pointer (some ⟨w.heap.size, 0, none⟩)] 63
    rwa [World.size_alloc] at this
  have hS : Below w.heap.size w ((w.alloc (.cells #[.string { data := #[] }, .int .i64 0] 62)).alloc (.cells #[.pointer (some ⟨w.heap.size, 0, none⟩)] 63)) := ((Below.refl _ w).alloc (Nat.le_refl _) _).alloc (by simp) _
  have hsz : ((w.alloc (.cells #[.string { data := #[] }, .int .i64 0] 62)).alloc (.cells #[.pointer (some ⟨w.heap.size, 0, none⟩)] 63)).heap.size = w.heap.size + 2 := by simp
  generalize ((w.alloc (.cells #[.string { data := #[] }, .int .i64 0] 62)).alloc (.cells #[.pointer (some ⟨w.heap.size, 0, none⟩)] 63)) = w2 at *
  have hlt := HH.out.lt
  have hn1 := HH.out.newFile HK.out (Nat.le_refl _) hb1 hS.size hS.block
  have hv : PnAt w2 (L.F ++ [w.heap.size]) (L.X ++ [w.heap.size + 1, y]) (.cr n d.files.length) (.func (.func 30) #[] #[.pointer (some ⟨w.heap.size + 1, 0, none⟩), .pointer (some ⟨y, 0, none⟩)]) := by
    refine ⟨w.heap.size + 1, y, rfl, by simp, by simp, ?_, HY.out.below hS HY.out.lt⟩
    have e1 : fb (L.F ++ [w.heap.size]) d.files.length = w.heap.size := by
      unfold fb
      rw [← HH.out.len, List.getD_eq_getElem?_getD, List.getElem?_append_right (Nat.le_refl _)]; simp
    rw [e1]; exact hb2
  have hfoot : ∀ k, k ∈ ({ L with F := L.F ++ [w.heap.size] } : Lay).foot g → k ∈ L.foot g ∨ k = w.heap.size := fun k hk => by
    rcases foot_cases hk with rfl | rfl | rfl | hk | hk | hk | hk
    · exact Or.inl foot_g
    · exact Or.inl foot_bn
    · exact Or.inl foot_bs
    · rcases List.mem_append.1 hk with hk | hk
      · exact Or.inl (foot_F hk)
      · exact Or.inr (by simpa using hk)
    · exact Or.inl (foot_X hk)
    · exact Or.inl (foot_vp hk)
    · exact Or.inl (foot_vf hk)
  have hC := dknames_any w2 g { L with F := L.F ++ [w.heap.size] } { d with files := d.files ++ [⟨[], 0⟩] } N (.cr n d.files.length) _ [w.heap.size + 1, y] hn1 HK.out.newFile (by have := HB.out.safe; show d.pend.length < _; omega) (by omega) hn hv
    (by
      intro k hk
      rcases List.mem_cons.1 hk with rfl | hk
      · omega
      · have e : k = y := by simpa using hk
        have := HY.out.lt
        omega)
    (by
      intro k hk hm
      rcases List.mem_cons.1 hk with rfl | hk
      · rcases hfoot _ hm with h1 | h1
        · have := hlt _ h1; omega
        · omega
      · have e : k = y := by simpa using hk
        subst e
        rcases hfoot _ hm with h1 | h1
        · exact hyf h1
        · have := HY.out.lt; omega)
  have HS := Lib.hid hS
  have HF := Lib.hid hfoot
  clear hb1 hb2 hS hlt hn1 hv hfoot
  refine hC.mono ?_
  rintro e w3 ⟨rfl, L', -, -, h1, h2⟩
  have H1 := Lib.hid h1
  have H2 := Lib.hid h2
  clear h1 h2
  go_wp2
  go_end0
  refine ⟨rfl, L', H1.out, ?_⟩
  have st := H2.out
  have sb := HS.out
  exact ⟨st.os.trans sb.os, st.tape.trans sb.tape, st.output.trans sb.output, Nat.le_trans sb.size st.size, fun k hk hA => (st.block k (Nat.lt_of_lt_of_le hk sb.size) (fun hm => by
      rcases List.mem_append.1 hm with hm | hm
      · rcases HF.out k hm with h1 | h1
        · exact hA (List.mem_append_left _ h1)
        · omega
      · rcases List.mem_cons.1 hm with h1 | h1
        · omega
        · exact hA (List.mem_append_right _ h1))).trans (sb.block k hk), fun k hk => by
      rcases st.inn k hk with hm | hm
      · rcases List.mem_append.1 hm with hm | hm
        · rcases HF.out k hm with h1 | h1
          · exact Or.inl (List.mem_append_left _ h1)
          · exact Or.inr (by omega)
        · rcases List.mem_cons.1 hm with h1 | h1
          · exact Or.inr (by omega)
          · exact Or.inl (List.mem_append_right _ h1)
      · exact Or.inr (Nat.le_trans sb.size hm)⟩
end Go.Proofs.YtfgpigblnkanpaaGreat
