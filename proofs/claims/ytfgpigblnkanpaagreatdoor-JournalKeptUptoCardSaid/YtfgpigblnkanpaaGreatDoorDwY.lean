/- The walks of what an operation of a disk does: Write, Sync, Flush. -/
import Derived.Test.YtfgpigblnkanpaaGreatDoorGB
import Derived.Test.YtfgpigblnkanpaaGreatDoorGC
import Derived.BigRegion
import Derived.RegionTactic
import Derived.Shelf.SlMaps.Clone
import Derived.Laws.Externs
import Derived.ChangeAlike
namespace Go.Proofs.YtfgpigblnkanpaaGreatDoor
open Go.RowKit Go.Maps Go.Shelf

/-- A file is written behind a draw. -/
theorem write_done {w : World} {g : Nat} {L : Lay} {d : Dk} {N f : Nat} {fl : Fl} {a : Addr} {v : Value} (h : DiskIn w g L d N) (hf : f < d.files.length) (ha : a.block = fb L.F f) (hb : Blk (w.setCell a v) (fb L.F f) (flCells fl) 111) :
    DiskIn (w.setCell a v).drew g L { d with files := d.files.set f fl } N ∧ Stp (L.foot g ++ []) (L.foot g) w (w.setCell a v).drew := by
  refine ⟨(h.setFile hf hb (by simp [World.setCell]) (fun k hk hne => Below.heap_setCell _ _ _ _ (by rw [ha]; exact hne))).drew, ?_⟩
  have := Stp.of_set (A := L.foot g ++ []) (B := L.foot g) w a v (by rw [ha]; exact List.mem_append_left _ (foot_F (getD_mem (by rw [h.len]; exact hf)))) (fun k hk => Or.inl (List.mem_append_left _ hk))
  exact ⟨this.os, this.tape, this.output, this.size, this.block, this.inn⟩

set_option maxHeartbeats 2000000 in
set_option maxRecDepth 100000 in
theorem dkWriteA_any (w : World) (g : Nat) (L : Lay) (d : Dk) (N x y z f : Nat) (n : Nm) (s : List UInt8) (hn : n.length ≤ 9223372036854775807) (hf : tget d.now n = some f) (hle : (fat d.files f).data.length + s.length ≤ 9223372036854775807) (h : DiskIn w g L d N) (hk : DkOk d) (hx : Blk w x [.pointer (some ⟨g, 0, none⟩)] 29) (hy : Blk w y [strV n] 9) (hz : Blk w z [strV s] 9) :
    Calls Tryz.prog 90 #[.pointer (some ⟨x, 0, none⟩), .pointer (some ⟨y, 0, none⟩), .pointer (some ⟨z, 0, none⟩)] w (ActPost g L (dact d false (.write n s)) N [] w) := by
  have x0 := hx.cell 0
  have y0 := hy.cell 0
  have z0 := hz.cell 0
  simp only [List.getElem?_cons_zero] at x0 y0 z0
  obtain ⟨c0, c1, c2, c3, c4, c5, c6⟩ := h.cells
  have hfl := hk.nowIn _ (tget_mem hf)
  obtain ⟨f0, f1⟩ := h.fcells hfl
  have hfree := (h.files f hfl).free 0
  have hl := h.drew.now.look hk.now n hn
  simp only [hf, fileV] at hl
  have hsz := str_size (fat d.files f).data
  have hsz2 := str_size s
  have HH := Lib.hid h
  have HF := Lib.hid hf
  have HK := Lib.hid hk
  clear h hf hk hx hy hz
  go_enter Tryz.func90, Tryz.ntmps90
  go_region
  go_end0
  have hb : Blk (w.setCell ⟨fb L.F f, 0, none⟩ (.string (str (fat d.files f).data ++ str s))) (fb L.F f) (flCells ⟨(fat d.files f).data ++ s, (fat d.files f).safe⟩) 111 := by
    have := (HH.out.files f hfl).set 0 (.string (str (fat d.files f).data ++ str s))
    rw [str_append] at this ⊢
    exact this
  have hd := write_done HH.out hfl rfl hb
  have e1 : dact d false (.write n s) = { d with files := d.files.set f ⟨(fat d.files f).data ++ s, (fat d.files f).safe⟩ } := by
    show { d with files := fmod d.files ((tget d.now n).getD 0) fun f => ⟨f.data ++ s, f.safe⟩ } = _
    rw [HF.out]; rfl
  rw [e1]
  exact ⟨rfl, L, hd.1.mono (Nat.le_succ _), hd.2⟩

set_option maxHeartbeats 2000000 in
set_option maxRecDepth 100000 in
theorem dkSyncA_any (w : World) (g : Nat) (L : Lay) (d : Dk) (N x y f : Nat) (n : Nm) (hn : n.length ≤ 9223372036854775807) (hf : tget d.now n = some f) (h : DiskIn w g L d N) (hk : DkOk d) (hx : Blk w x [.pointer (some ⟨g, 0, none⟩)] 29) (hy : Blk w y [strV n] 9) :
    Calls Tryz.prog 64 #[.pointer (some ⟨x, 0, none⟩), .pointer (some ⟨y, 0, none⟩)] w (ActPost g L (dact d false (.sync n)) N [] w) := by
  have x0 := hx.cell 0
  have y0 := hy.cell 0
  simp only [List.getElem?_cons_zero] at x0 y0
  obtain ⟨c0, c1, c2, c3, c4, c5, c6⟩ := h.cells
  have hfl := hk.nowIn _ (tget_mem hf)
  obtain ⟨f0, f1⟩ := h.fcells hfl
  have hfree := (h.files f hfl).free 1
  have hl := h.drew.now.look hk.now n hn
  simp only [hf, fileV] at hl
  have hsz := str_size (fat d.files f).data
  have HH := Lib.hid h
  have HF := Lib.hid hf
  have HK := Lib.hid hk
  clear h hf hk hx hy
  go_enter Tryz.func64, Tryz.ntmps64
  go_region
  go_end0
  have hb : Blk (w.setCell ⟨fb L.F f, 1, none⟩ (.int .i64 (fat d.files f).data.length)) (fb L.F f) (flCells ⟨(fat d.files f).data, (fat d.files f).data.length⟩) 111 := (HH.out.files f hfl).set 1 (.int .i64 (fat d.files f).data.length)
  have hd := write_done HH.out hfl rfl hb
  have e1 : dact d false (.sync n) = { d with files := d.files.set f ⟨(fat d.files f).data, (fat d.files f).data.length⟩ } := by
    show { d with files := fmod d.files ((tget d.now n).getD 0) fun f => ⟨f.data, f.data.length⟩ } = _
    rw [HF.out]; rfl
  rw [e1]
  exact ⟨rfl, L, hd.1.mono (Nat.le_succ _), hd.2⟩

set_option maxHeartbeats 2000000 in
set_option maxRecDepth 100000 in
theorem mapsClone_any (b : Nat) (es : Array MapEntry) (clock : Nat) (w : World) (hb : w.heap[b]? = some (.map es clock)) :
    Calls Tryz.prog 67 #[.map (some b)] w fun e w' => e = .returned (.map (some w.heap.size)) ∧ w' = w.alloc (.map es clock) := by
  have hq := fun w => run_eql_map_nil_sl (P := Tryz.prog) w 98 _ _ (some b) Tryz.underlying98
  go_enter Tryz.func67, Tryz.ntmps67
  go_wp2
  rw [run_callFunc_extern Tryz.func117 (by kernel_rfl) (by kernel_rfl) (by kernel_rfl) (e := Extern.MapsClone.clone) (by kernel_rfl), run_maps_clone_sl w 98 hb]
  simp only [Result.andThen]
  rw [Oper.upon_value]
  go_wp2
  rw [run_typeAssert_map_sl _ 98 20 _ _ _ Tryz.underlying98]
  simp only [Result.andThen]
  rw [Oper.upon_value]
  go_wp2
  go_ret
  exact ⟨rfl, rfl⟩
theorem MapIs.clone {w : World} {b : Nat} {t : Tb} {F : List Nat} {N : Nat} (h : MapIs w b t F N) : Calls Tryz.prog 67 #[.map (some b)] w fun e w' => e = .returned (.map (some w.heap.size)) ∧ MapIs w' w.heap.size t F N ∧ Below w.heap.size w w' ∧ w'.heap.size = w.heap.size + 1 := by
  obtain ⟨es, clock, hb⟩ := h.obj
  refine (mapsClone_any b es clock w hb).mono fun e w' ⟨he, hw⟩ => ?_
  subst hw
  exact ⟨he, mapClone_is h hb (MapKept.heap_alloc w _).1, (Below.refl _ w).alloc (Nat.le_refl _) _, by simp⟩
end Go.Proofs.YtfgpigblnkanpaaGreatDoor
