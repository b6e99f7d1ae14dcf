/- Bytes made, copied, cloned: what the journal's walks share with the codec's. The document's disk: left. The document's disk in memory; New, Read, Revive. The document's disk: New, Used, Arm. -/
import Derived.Test.YtfgpigblnkanpaaGreatDoorB
import Derived.Test.YtfgpigblnkanpaaGreatDoorGF
import Derived.Stop.IfaceNil
import Derived.WalkLawsBesides
import Derived.Deep.DeepCutAuto
import Derived.Lib.BufferWrite
import Derived.Lib.UnsafeStr
import Derived.Test.YtfgpigblnkanpaaGreatDoorHG
import Derived.Test.YtfgpigblnkanpaaGreatDoorHD
import Derived.BigQuiet
namespace Go.Proofs.YtfgpigblnkanpaaGreatDoor
open Go.RowKit
set_option linter.unusedVariables false

theorem byte_of (c : Nat) : Value.int .u8 ((c : Int) % 256) = byteV c.toUInt8 := by
  simp only [byteV, Nat.toUInt8, UInt8.toNat_ofNat', Value.int.injEq, true_and]
  omega
theorem four_cells (c : Nat) : [Value.int .u8 ((c : Int) % 256), Value.int .u8 ((c : Int) / 256 % 256), Value.int .u8 ((c : Int) / 65536 % 256), Value.int .u8 ((c : Int) / 16777216 % 256)] = [c.toUInt8, (c / 256).toUInt8, (c / 65536).toUInt8, (c / 16777216).toUInt8].map byteV := by
  have e1 : (c : Int) / 256 = ((c / 256 : Nat) : Int) := by omega
  have e2 : (c : Int) / 65536 = ((c / 65536 : Nat) : Int) := by omega
  have e3 : (c : Int) / 16777216 = ((c / 16777216 : Nat) : Int) := by omega
  rw [e1, e2, e3, byte_of, byte_of, byte_of, byte_of]
  rfl
theorem infoByteU : (Tryz.prog.info? 5).map (fun i => (i.zero, i.size, i.bytes)) = some (some (.int .u8 0), 1, 1) := by kernel_rfl
theorem sizeByteU : (Tryz.prog.info? 5).map (·.size) = some 1 := by kernel_rfl
theorem cellsByteU : Tryz.prog.cellsOf 5 = 1 := by kernel_rfl
theorem size_str' (l : List UInt8) : (str l).data.toList = l := rfl

/-- A row of so many noughts. -/
def zerosV (n : Nat) : List Value := List.replicate n (.int .u8 0)
theorem madeBytes (n : Nat) : madeCells (Value.int .u8 0).cells n = (zerosV n).toArray := by
  apply Array.ext
  · simp [size_madeCells, zerosV]
  · intro i h1 h2
    simp [madeCells, Value.cells, zerosV, Nat.mod_one]
theorem make_bytes (W : World) (n : Nat) (hn : n ≤ 281474976710656) (x : Int) (hx : x = n) : (Instr.makeSlice 140 (.int .i64 x) (.int .i64 x)).run Tryz.prog W = .ok (.slice (some ⟨W.heap.size, 0, none⟩) n n) (W.alloc (.cells (zerosV n).toArray 5)) := by
  subst hx
  obtain ⟨i0, hi, hz0, hz1, hz2⟩ := info_parts infoByteU
  have h := run_make (P := Tryz.prog) W 140 5 i0 (.int .u8 0) Tryz.underlying140 hi hz0 .i64 .i64 (n : Int) (n : Int) (by omega) (by omega) (by rw [hz2]; omega) (by omega)
  rw [hz1, Nat.mul_one, Int.toNat_natCast, madeBytes] at h
  exact h
/-- A text copied into a row. -/
theorem copy_text {w : World} {g : Nat} {xs : List Value} (h : Blk w g xs 5) (o dLen dCap : Nat) (t : List UInt8) (ht : t.length ≤ dLen) (hf : o + t.length ≤ xs.length) (ty : TypeId) :
    (Builtin.copy_ #[140, 9] ty #[.slice (some ⟨g, o, none⟩) dLen dCap, .string (str t)]).run Tryz.prog w = .ok (.int .i64 t.length) (w.setRow g (xs.take o ++ t.map byteV ++ xs.drop (o + t.length)).toArray) := by
  have := Lib.run_copy_row_string (P := Tryz.prog) w 140 9 ty 5 g o dLen dCap (str t) xs.toArray 5 Tryz.underlying140 sizeByteU h (by rw [str_size]; exact ht) (by rw [str_size]; simpa using hf)
  rw [str_size] at this
  exact this
theorem below_setRow {B : Nat} {a w : World} (h : Below B a w) {g : Nat} (hg : B ≤ g) (cs : Array Value) : Below B a (w.setRow g cs) :=
  h.trans ⟨rfl, rfl, rfl, by simp [World.setRow], fun k hk => setRow_other _ _ _ _ (by omega)⟩
theorem Blk.setRow {w : World} {b : Nat} {xs ys : List Value} {t : TypeId} (h : Blk w b xs t) : Blk (w.setRow b ys.toArray) b ys t := setRow_heap w b _ _ t _ h

set_option maxHeartbeats 400000 in
set_option maxRecDepth 100000 in
theorem slClone_any (l : List UInt8) (w : World) (hlim : l.length ≤ 281474976710656) :
    Calls Tryz.prog 180 #[.string (str l)] w fun e w' => e = .returned (strV l) ∧ Below w.heap.size w w' := by
  have e1 := str_size l
  by_cases h0 : l = []
  · subst h0
    go_enter Tryz.func180, Tryz.ntmps180
    go_wp2
    go_ret
    exact ⟨rfl, Below.refl _ _⟩
  · have hl0 : 0 < l.length := List.length_pos_iff.2 h0
    have hmk := make_bytes w l.length hlim (l.length : Int) rfl
    have hz := Blk.new w (zerosV l.length) 5
    have hcp := copy_text hz 0 l.length l.length l (Nat.le_refl _) (by simp [zerosV]) 3
    have hrow : (zerosV l.length).take 0 ++ l.map byteV ++ (zerosV l.length).drop (0 + l.length) = l.map byteV := by simp [zerosV]
    rw [hrow] at hcp
    have hY := Blk.setRow (ys := l.map byteV) hz
    have hUS := Lib.run_unsafeString_row (P := Tryz.prog) ((w.alloc (.cells (zerosV l.length).toArray 5)).setRow w.heap.size (l.map byteV).toArray) 239 3 9 5 Tryz.underlying239 cellsByteU w.heap.size l.length (by unfold Blk at hY; unfold World.shape?; rw [hY]; simp) l h0 (Nat.le_refl _) (by omega)
      (fun j x hx => by
        have hj : (⟨w.heap.size, 0, none⟩ : Addr).add j = ⟨w.heap.size, j, none⟩ := by simp [Addr.add]; omega
        rw [hj, hY.cell, List.getElem?_map, hx]; rfl)
    have hbel : Below w.heap.size w ((w.alloc (.cells (zerosV l.length).toArray 5)).setRow w.heap.size (l.map byteV).toArray) := below_setRow ((Below.refl _ w).alloc (Nat.le_refl _) _) (Nat.le_refl _) _
    clear hY hz hrow h0
    go_enter Tryz.func180, Tryz.ntmps180
    go_wp2
    go_ret
    exact ⟨rfl, Lib.below_freeze hbel (p := ⟨w.heap.size, 0, none⟩) (Nat.le_refl _) _⟩
set_option maxRecDepth 100000 in
theorem Clone_any (l : List UInt8) (w : World) (hlim : l.length ≤ 281474976710656) :
    Calls Tryz.prog 158 #[.string (str l)] w fun e w' => e = .returned (strV l) ∧ Below w.heap.size w w' := by
  go_enter Tryz.func158, Tryz.ntmps158
  go_wp2_with (fail)
  refine (slClone_any l _ hlim).mono ?_
  rintro e w1 ⟨rfl, hb⟩
  go_wp2
  go_ret
  exact ⟨rfl, hb⟩

end Go.Proofs.YtfgpigblnkanpaaGreatDoor

namespace Go.Proofs.YtfgpigblnkanpaaGreatDoor
open Go.RowKit Go.Maps Go.Shelf
set_option linter.unusedVariables false

theorem conv_zerosJ (n : Nat) (w1 : World) : (convert 140 9 (.slice (some ⟨w1.heap.size, 0, none⟩) n n)).run Tryz.prog (w1.alloc (.cells (zerosV n).toArray 5)) = .ok (.string (str (List.replicate n 0))) (w1.alloc (.cells (zerosV n).toArray 5)) := by
  refine conv_bytes (Blk.new w1 (zerosV n) 5) Tryz.underlying140 Tryz.underlying5 Tryz.underlying9 (List.replicate n 0) [] n n (by simp) ?_
  simp [zerosV, byteV]
set_option maxHeartbeats 4000000 in
set_option maxRecDepth 100000 in
theorem rLeft_any (w : World) (f : Fl) (n : Int) (hs : f.safe ≤ f.data.length) (hl : f.data.length ≤ 140737488355328) : Calls Tryz.prog 150 #[.agg #[strV f.data, .int .i64 f.safe], .int .i64 n] w fun e w' => e = .returned (strV (dleft f n)) ∧ Below w.heap.size w w' := by
  have hS : Below w.heap.size w (w.alloc (.cells #[strV f.data, .int .i64 f.safe] 162)) := (Below.refl _ w).alloc (Nat.le_refl _) _
  have hbx := Blk.new w [strV f.data, .int .i64 f.safe] 162
  have y0 := hbx.cell 0
  have y1 := hbx.cell 1
  simp only [List.getElem?_cons_zero, List.getElem?_cons_succ] at y0 y1
  have hsz := str_size f.data
  have hx1 : (str f.data).extract 0 f.safe = str (f.data.take f.safe) := by rw [str_extract]; simp
  have hx2 : (str f.data).extract f.safe f.data.length = str (f.data.drop f.safe) := str_extract_to f.data f.safe
  have hsz1 := str_size (f.data.take f.safe)
  have hsz2 := str_size (f.data.drop f.safe)
  have hl1 : (f.data.take f.safe).length = f.safe := by rw [List.length_take]; omega
  have hl2 : (f.data.drop f.safe).length = f.data.length - f.safe := List.length_drop
  rw [hl1] at hsz1
  rw [hl2] at hsz2
  have ik0 : (0 : Int) ≤ (f.safe : Int) := by omega
  have ik1 : (f.safe : Int) ≤ (f.data.length : Int) := by omega
  have hand := bits_and3 n
  have HS := Lib.hid hS
  have hcase : n % 4 = 0 ∨ n % 4 = 1 ∨ n % 4 = 2 ∨ n % 4 = 3 := by omega
  clear hS hbx
  rcases hcase with h4 | h4 | h4 | h4
  · have e : dleft f n = f.data.take f.safe := by unfold dleft; rw [if_pos h4]
    rw [e]
    rw [h4] at hand
    clear e h4
    go_enter Tryz.func150, Tryz.ntmps150
    go_wp2
    go_ret
    exact ⟨rfl, HS.out⟩
  · have e : dleft f n = f.data := by unfold dleft; rw [if_neg (by omega), if_pos h4]
    rw [e]
    rw [h4] at hand
    clear e h4
    go_enter Tryz.func150, Tryz.ntmps150
    go_wp2
    go_ret
    exact ⟨rfl, HS.out⟩
  · have e : dleft f n = f.data.take f.safe ++ (f.data.drop f.safe).take ((f.data.length - f.safe) / 2) := by unfold dleft; rw [if_neg (by omega), if_neg (by omega), if_pos h4, List.take_add]
    rw [e]
    rw [h4] at hand
    obtain ⟨m, hm⟩ : ∃ m, m = f.data.length - f.safe := ⟨_, rfl⟩
    rw [← hm] at hsz2 hl2 ⊢
    have hsm : (f.safe : Int) + m ≤ 140737488355328 := by omega
    clear e h4 hm
    generalize f.data.take f.safe = r1 at *
    generalize f.data.drop f.safe = r2 at *
    have hx3 : (str r2).extract 0 (m / 2) = str (r2.take (m / 2)) := by rw [str_extract]; simp
    have hsz3 := str_size (r2.take (m / 2))
    have hl3 : (r2.take (m / 2)).length ≤ m := by rw [List.length_take]; omega
    have happ := str_append r1 (r2.take (m / 2))
    have hp : ((m : Int) / 2).toNat = m / 2 := by omega
    have hp0 : (0 : Int) ≤ (m : Int) / 2 := by omega
    have hp1 : (m : Int) / 2 ≤ (m : Int) := by omega
    go_enter Tryz.func150, Tryz.ntmps150
    go_wp2
    go_ret
    exact ⟨rfl, HS.out⟩
  · have e : dleft f n = f.data.take f.safe ++ List.replicate (f.data.length - f.safe) 0 := by unfold dleft; rw [if_neg (by omega), if_neg (by omega), if_neg (by omega)]
    rw [e]
    rw [h4] at hand
    obtain ⟨m, hm⟩ : ∃ m, m = f.data.length - f.safe := ⟨_, rfl⟩
    rw [← hm] at hsz2 hl2 ⊢
    have hsm : (f.safe : Int) + m ≤ 140737488355328 := by omega
    clear e h4 hm
    generalize f.data.take f.safe = r1 at *
    generalize f.data.drop f.safe = r2 at *
    have hmk := fun W => make_bytes W m (by omega) (m : Int) rfl
    have hcv := conv_zerosJ m (w.alloc (.cells #[strV f.data, .int .i64 f.safe] 162))
    rw [World.size_alloc] at hcv
    have hsz3 := str_size (List.replicate m (0 : UInt8))
    rw [List.length_replicate] at hsz3
    have happ := str_append r1 (List.replicate m 0)
    go_enter Tryz.func150, Tryz.ntmps150
    go_wp2
    go_ret
    exact ⟨rfl, HS.out.alloc (by simp) _⟩
end Go.Proofs.YtfgpigblnkanpaaGreatDoor

namespace Go.Proofs.YtfgpigblnkanpaaGreatDoor
open Go.RowKit Go.Maps Go.Shelf
set_option linter.unusedVariables false

def cellsF (fs : List Fl) : List Value := fs.flatMap fun x => [strV x.data, .int .i64 (x.safe : Nat)]
def cellsO (ps : List Pn) : List Value := ps.flatMap opCells
theorem cellsF_at : ∀ (t : List Fl) (k : Nat) (x : Fl), t[k]? = some x → (cellsF t)[k * 2]? = some (strV x.data) ∧ (cellsF t)[k * 2 + 1]? = some (.int .i64 (x.safe : Nat))
  | [], k, x, h => by simp at h
  | y :: t, 0, x, h => by simp at h; subst h; exact ⟨rfl, rfl⟩
  | y :: t, k + 1, x, h => by
    have := cellsF_at t k x (by simpa using h)
    rw [show (k + 1) * 2 = k * 2 + 1 + 1 from by omega]
    show (strV y.data :: Value.int .i64 (y.safe : Nat) :: cellsF t)[k * 2 + 1 + 1]? = _ ∧ (strV y.data :: Value.int .i64 (y.safe : Nat) :: cellsF t)[k * 2 + 1 + 1 + 1]? = _
    simpa using this
theorem cellsF_len : ∀ t : List Fl, (cellsF t).length = t.length * 2
  | [] => rfl
  | x :: t => by
    have := cellsF_len t
    show (strV x.data :: Value.int .i64 (x.safe : Nat) :: cellsF t).length = _
    simp only [List.length_cons, this]
    omega
/-- The document's disk d lies at g: its files in a row of its own, its tables in rows that are read, its pending operations in a row of its own. -/
structure RefIn (w : World) (g : Nat) (fv nv sv pv kv : Value) (d : Dk) : Prop where
  blk : Blk w g [.bool d.off, .int .i64 (d.room : Nat), fv, nv, sv, pv, .int .i64 (d.armed : Nat), kv] 119
  files : w.ownsRow 0 162 2 fv d.files.length (cellsF d.files)
  now : TabAt w nv d.now
  safe : TabAt w sv d.safe
  pend : w.ownsRow 0 122 4 pv d.pend.length (cellsO d.pend)
  fate : IntsAt w kv d.fate
  gf : fv.ownBlock ≠ some g
  gn : nv.ownBlock ≠ some g
  gs : sv.ownBlock ≠ some g
  gp : pv.ownBlock ≠ some g
  gk : kv.ownBlock ≠ some g
  fn : ∀ b, fv.ownBlock = some b → nv.ownBlock ≠ some b ∧ sv.ownBlock ≠ some b ∧ pv.ownBlock ≠ some b ∧ kv.ownBlock ≠ some b
  pn : ∀ b, pv.ownBlock = some b → nv.ownBlock ≠ some b ∧ sv.ownBlock ≠ some b ∧ kv.ownBlock ≠ some b
theorem TabAt.same {w w' : World} {v : Value} {t : Tb} (h : TabAt w v t) (hs : ∀ b, v.ownBlock = some b → w'.heap[b]? = w.heap[b]?) : TabAt w' v t := by
  obtain ⟨a, c, rfl, h2⟩ := h
  refine ⟨a, c, rfl, fun k x hx => ?_⟩
  obtain ⟨b, off, rfl, h4, h5⟩ := h2 k x hx
  have e := hs b rfl
  exact ⟨b, off, rfl, by rw [← h4]; unfold World.cell?; simp only [e], by rw [← h5]; unfold World.cell?; simp only [e]⟩
/-- The same rows in another world, the struct turned. -/
theorem RefIn.turn {w w' : World} {g : Nat} {fv nv sv pv kv : Value} {d d' : Dk} (h : RefIn w g fv nv sv pv kv d) (hb : Blk w' g [.bool d'.off, .int .i64 (d'.room : Nat), fv, nv, sv, pv, .int .i64 (d'.armed : Nat), kv] 119) (hs : ∀ j, j ≠ g → w'.heap[j]? = w.heap[j]?)
    (e1 : d'.files = d.files) (e2 : d'.now = d.now) (e3 : d'.safe = d.safe) (e4 : d'.pend = d.pend) (e5 : d'.fate = d.fate) : RefIn w' g fv nv sv pv kv d' := by
  refine ⟨hb, ?_, ?_, ?_, ?_, ?_, h.gf, h.gn, h.gs, h.gp, h.gk, h.fn, h.pn⟩
  · rw [e1]; exact ownsRow_same h.files fun k hk => hs k (fun e => h.gf (e ▸ hk))
  · rw [e2]; exact h.now.same fun k hk => hs k (fun e => h.gn (e ▸ hk))
  · rw [e3]; exact h.safe.same fun k hk => hs k (fun e => h.gs (e ▸ hk))
  · rw [e4]; exact ownsRow_same h.pend fun k hk => hs k (fun e => h.gp (e ▸ hk))
  · rw [e5]; exact h.fate.same fun k hk => hs k (fun e => h.gk (e ▸ usesOf_own hk))
theorem RefIn.cells {w : World} {g : Nat} {fv nv sv pv kv : Value} {d : Dk} (h : RefIn w g fv nv sv pv kv d) :
    w.cell? ⟨g, 0, none⟩ = some (.bool d.off) ∧ w.cell? ⟨g, 1, none⟩ = some (.int .i64 (d.room : Nat)) ∧ w.cell? ⟨g, 2, none⟩ = some fv ∧ w.cell? ⟨g, 3, none⟩ = some nv ∧ w.cell? ⟨g, 4, none⟩ = some sv ∧ w.cell? ⟨g, 5, none⟩ = some pv ∧ w.cell? ⟨g, 6, none⟩ = some (.int .i64 (d.armed : Nat)) ∧ w.cell? ⟨g, 7, none⟩ = some kv := by
  have c0 := h.blk.cell 0
  have c1 := h.blk.cell 1
  have c2 := h.blk.cell 2
  have c3 := h.blk.cell 3
  have c4 := h.blk.cell 4
  have c5 := h.blk.cell 5
  have c6 := h.blk.cell 6
  have c7 := h.blk.cell 7
  simp only [List.getElem?_cons_zero, List.getElem?_cons_succ] at c0 c1 c2 c3 c4 c5 c6 c7
  exact ⟨c0, c1, c2, c3, c4, c5, c6, c7⟩
theorem RefIn.file {w : World} {g : Nat} {fv nv sv pv kv : Value} {d : Dk} (h : RefIn w g fv nv sv pv kv d) {i : Nat} (hi : i < d.files.length) :
    ∃ b cap, fv = .slice (some ⟨b, 0, none⟩) d.files.length cap ∧ w.cell? ⟨b, i * 2, none⟩ = some (strV (fat d.files i).data) ∧ w.cell? ⟨b, i * 2 + 1, none⟩ = some (.int .i64 ((fat d.files i).safe : Nat)) := by
  have hx : d.files[i]? = some (fat d.files i) := by
    unfold fat
    rw [List.getElem?_eq_getElem hi, List.getD_eq_getElem?_getD, List.getElem?_eq_getElem hi]
    rfl
  obtain ⟨q1, q2⟩ := cellsF_at d.files i _ hx
  rcases h.files.2 with ⟨_, h0⟩ | ⟨b, cap, cur, rfl, _, hg, h1, h2, h3, h4⟩
  · omega
  · have key : ∀ j u, (cellsF d.files)[j]? = some u → w.cell? ⟨b, j, none⟩ = some u := fun j u hu => by
      have hj := (List.getElem?_eq_some_iff.1 hu).1
      rw [← h4] at hu
      rw [List.getElem?_take_of_lt (by rw [cellsF_len] at hj; omega)] at hu
      unfold World.cell?
      simp only [hg]
      simpa using hu
    exact ⟨b, cap, rfl, key _ _ q1, key _ _ q2⟩
set_option maxHeartbeats 4000000 in
set_option maxRecDepth 100000 in
theorem rRead_any (w : World) (g : Nat) (fv nv sv pv kv : Value) (d : Dk) (n : Nm) (h : RefIn w g fv nv sv pv kv d) (hk : DkOk d) (hl : d.now.length ≤ 4294967296) (hfl : d.files.length ≤ 4294967296) :
    Calls Tryz.prog 72 #[.pointer (some ⟨g, 0, none⟩), strV n] w fun e w' => e = .returned (.tuple #[strV (dread d n).1, .int .i64 ((dread d n).2 : Nat)]) ∧ Below w.heap.size w w' := by
  obtain ⟨c0, c1, c2, c3, c4, c5, c6, c7⟩ := h.cells
  by_cases hoff : d.off = true
  · have e : dread d n = ([], 20) := by unfold dread; rw [if_pos hoff]
    rw [e]
    rw [hoff] at c0
    clear h hoff e
    go_enter Tryz.func72, Tryz.ntmps72
    go_wp2
    go_ret2
    exact ⟨rfl, Below.refl _ _⟩
  · have hoff' : d.off = false := by simpa using hoff
    rw [hoff'] at c0
    have HA := Lib.hid (rAt_any w nv d.now n h.now (by omega))
    have HH := Lib.hid h
    have hN := h.now
    obtain ⟨na, nc, rfl, hnx⟩ := hN
    clear h
    cases hg : tget d.now n with
    | none =>
      have e : dread d n = ([], 18) := by unfold dread; rw [if_neg hoff, hg]
      rw [e]
      clear hoff hoff' e hnx
      go_enter Tryz.func72, Tryz.ntmps72
      go_wp2_with (fail)
      refine HA.out.mono ?_
      rintro e w1 ⟨p, rfl, hat, rfl⟩
      rcases hat with ⟨rfl, -⟩ | ⟨k, f, rfl, -, h2⟩
      · go_wp2
        go_ret2
        exact ⟨rfl, Below.refl _ _⟩
      · rw [hg] at h2; cases h2
    | some f =>
      have e : dread d n = ((fat d.files f).data, 0) := by unfold dread; rw [if_neg hoff, hg]
      rw [e]
      have hfi := hk.nowIn _ (tget_mem hg)
      obtain ⟨b, cap, rfl, f0, f1⟩ := HH.out.file hfi
      have HG := Lib.hid hg
      clear hoff hoff' e hg
      go_enter Tryz.func72, Tryz.ntmps72
      go_wp2_with (fail)
      refine HA.out.mono ?_
      rintro e w1 ⟨p, rfl, hat, rfl⟩
      rcases hat with ⟨-, h2⟩ | ⟨k, f', rfl, htk, h2⟩
      · rw [HG.out] at h2; cases h2
      · rw [HG.out] at h2
        cases h2
        obtain ⟨b2, off, rfl, k0, k1⟩ := hnx k _ htk
        have hkl := (List.getElem?_eq_some_iff.1 htk).1
        have ik0 : (0 : Int) ≤ (k : Int) := by omega
        have ik1 : (k : Int) < (d.now.length : Int) := by omega
        have ik2 : ¬ (k : Int) < 0 := by omega
        have ik3 : (0 : Int) ≤ (f : Int) := by omega
        have ik4 : (f : Int) < (d.files.length : Int) := by omega
        clear hnx htk
        go_wp2_with (fail)
        go_quiet (fail)
        go_wp2
        go_ret2
        exact ⟨rfl, below_drewN (Below.refl _ _) _⟩
set_option maxHeartbeats 4000000 in
set_option maxRecDepth 100000 in
theorem rRevive_any (w : World) (g : Nat) (fv nv sv pv kv : Value) (d : Dk) (h : RefIn w g fv nv sv pv kv d) :
    Calls Tryz.prog 79 #[.pointer (some ⟨g, 0, none⟩)] w fun e w' => e = .returned (.tuple #[]) ∧ RefIn w' g fv nv sv pv kv (drevive d) ∧ w' = w.setCell ⟨g, 0, none⟩ (.bool false) := by
  obtain ⟨c0, c1, c2, c3, c4, c5, c6, c7⟩ := h.cells
  have hf := h.blk.free 0
  have hs : ∀ j, j ≠ g → (w.setCell ⟨g, 0, none⟩ (.bool false)).heap[j]? = w.heap[j]? := fun j hj => heap_setCell_other _ _ _ _ hj
  have hr : RefIn (w.setCell ⟨g, 0, none⟩ (.bool false)) g fv nv sv pv kv (drevive d) := h.turn (h.blk.set 0 (.bool false)) hs rfl rfl rfl rfl rfl
  have HR := Lib.hid hr
  clear h hs hr
  go_enter Tryz.func79, Tryz.ntmps79
  go_wp2_with (fail)
  go_end0
  exact ⟨rfl, HR.out, rfl⟩
end Go.Proofs.YtfgpigblnkanpaaGreatDoor

namespace Go.Proofs.YtfgpigblnkanpaaGreatDoor
open Go.RowKit Go.Maps Go.Shelf
set_option linter.unusedVariables false

set_option maxHeartbeats 1000000 in
set_option maxRecDepth 100000 in
theorem rNew_any (w : World) (room : Int) : Calls Tryz.prog 22 #[.int .i64 room] w fun e w' => ∃ g, e = .returned (.pointer (some ⟨g, 0, none⟩)) ∧ w.heap.size ≤ g ∧ RefIn w' g (.slice none 0 0) (.slice none 0 0) (.slice none 0 0) (.slice none 0 0) (.slice none 0 0) (dnew room) ∧ Below w.heap.size w w' := by
  go_enter Tryz.func22, Tryz.ntmps22
  go_wp2
  go_ret
  have e1 : min (max room 0) 268435456 = (((dnew room).room : Nat) : Int) := by show _ = (((min (max room 0) 268435456).toNat : Nat) : Int); omega
  rw [e1]
  refine ⟨w.heap.size, rfl, Nat.le_refl _, ⟨Blk.new w [.bool false, .int .i64 ((dnew room).room : Nat), .slice none 0 0, .slice none 0 0, .slice none 0 0, .slice none 0 0, .int .i64 0, .slice none 0 0] 119, World.ownsRow_nil _ _ _ _, ⟨none, 0, rfl, fun k x hx => by cases hx⟩, ⟨none, 0, rfl, fun k x hx => by cases hx⟩, World.ownsRow_nil _ _ _ _, IntsAt.nil _ _ _, by simp [Value.ownBlock], by simp [Value.ownBlock], by simp [Value.ownBlock], by simp [Value.ownBlock], by simp [Value.ownBlock], fun b hb => (by cases hb), fun b hb => (by cases hb)⟩, (Below.refl _ w).alloc (Nat.le_refl _) _⟩
theorem dsum_append (fs : List Fl) : ∀ a b : Tb, dsum fs (a ++ b) = dsum fs a + dsum fs b
  | [], b => by simp [dsum]
  | x :: a, b => by
    show (fat fs x.2).data.length + dsum fs (a ++ b) = (fat fs x.2).data.length + dsum fs a + dsum fs b
    rw [dsum_append fs a b]
    omega
theorem dsum_take (fs : List Fl) (t : Tb) (k : Nat) : dsum fs (t.take k) ≤ dsum fs t := by
  have := dsum_append fs (t.take k) (t.drop k)
  rw [List.take_append_drop] at this
  omega
set_option maxHeartbeats 4000000 in
set_option maxRecDepth 100000 in
theorem rUsed_any (w : World) (g : Nat) (fv nv sv pv kv : Value) (d : Dk) (h : RefIn w g fv nv sv pv kv d) (hk : DkOk d) (hl : d.now.length ≤ 4294967296) (hfl : d.files.length ≤ 4294967296) (hsum : dsum d.files d.now ≤ 4611686018427387904) :
    Calls Tryz.prog 80 #[.pointer (some ⟨g, 0, none⟩)] w fun e w' => e = .returned (.int .i64 (dused d : Nat)) ∧ ∃ q, w' = w.drewN q := by
  obtain ⟨c0, c1, c2, c3, c4, c5, c6, c7⟩ := h.cells
  have HH := Lib.hid h
  have hN := h.now
  obtain ⟨na, nc, rfl, hnx⟩ := hN
  have HX := Lib.hid hnx
  have HK := Lib.hid hk
  clear h hnx hk
  by_cases hoff : d.off = true
  · have e : dused d = 0 := by unfold dused; rw [if_pos hoff]
    rw [e]
    rw [hoff] at c0
    clear hoff e
    by_cases h0 : 0 < d.now.length
    · have ik : (0 : Int) < (d.now.length : Int) := by omega
      go_enter Tryz.func80, Tryz.ntmps80
      go_wp2_with (fail)
      go_loopw [3, 4] (fun nv iv wr => nv = .int .i64 0 ∧ iv = .int .i64 0 ∧ wr = w) (fun _ _ _ => 0)
      case atStart => exact ⟨rfl, rfl, rfl⟩
      case round =>
        obtain ⟨rfl, rfl, rfl⟩ := hrel
        go_wp2
        go_ret
        exact ⟨rfl, 0, rfl⟩
    · have ik : ¬ (0 : Int) < (d.now.length : Int) := by omega
      go_enter Tryz.func80, Tryz.ntmps80
      go_wp2_with (fail)
      go_loopw [3, 4] (fun nv iv wr => nv = .int .i64 0 ∧ iv = .int .i64 0 ∧ wr = w) (fun _ _ _ => 0)
      case atStart => exact ⟨rfl, rfl, rfl⟩
      case round =>
        obtain ⟨rfl, rfl, rfl⟩ := hrel
        go_wp2
        go_ret
        exact ⟨rfl, 0, rfl⟩
  · have hoff' : d.off = false := by simpa using hoff
    rw [hoff'] at c0
    have e : dused d = dsum d.files d.now := by unfold dused; rw [if_neg hoff]
    rw [e]
    clear hoff hoff' e
    go_enter Tryz.func80, Tryz.ntmps80
    go_wp2_with (fail)
    go_loopw [3, 4] (fun sv iv wr => ∃ k q : Nat, iv = .int .i64 k ∧ k ≤ d.now.length ∧ sv = .int .i64 (dsum d.files (d.now.take k) : Nat) ∧ wr = w.drewN q) (fun _ iv _ => d.now.length - (intOf iv).toNat)
    case atStart => exact ⟨0, 0, rfl, Nat.zero_le _, rfl, rfl⟩
    case round =>
      obtain ⟨k, q, rfl, hkl, rfl, rfl⟩ := hrel
      by_cases hlt : k < d.now.length
      · obtain ⟨x, hx⟩ : ∃ x, d.now[k]? = some x := ⟨_, List.getElem?_eq_getElem hlt⟩
        obtain ⟨b2, off, rfl, k0, k1⟩ := HX.out k _ hx
        have hfi := HK.out.nowIn x (List.mem_of_getElem? hx)
        obtain ⟨b, cap, rfl, f0, f1⟩ := HH.out.file hfi
        have hs1 := dsum_take d.files d.now (k + 1)
        have hs2 : dsum d.files (d.now.take (k + 1)) = dsum d.files (d.now.take k) + (fat d.files x.2).data.length := by
          rw [List.take_add_one, hx, dsum_append]
          simp [dsum]
        have HS2 := Lib.hid hs2
        have hs3 : dsum d.files (d.now.take k) + (fat d.files x.2).data.length ≤ 4611686018427387904 := by omega
        have hsz := str_size (fat d.files x.2).data
        have ik0 : (0 : Int) ≤ (k : Int) := by omega
        have ik1 : (k : Int) < (d.now.length : Int) := by omega
        have ik3 : (0 : Int) ≤ (x.2 : Int) := by omega
        have ik4 : (x.2 : Int) < (d.files.length : Int) := by omega
        obtain ⟨s0, hs0⟩ : ∃ s, s = dsum d.files (d.now.take k) := ⟨_, rfl⟩
        rw [← hs0] at HS2 hs3 ⊢
        have hwr : IntKind.i64.wrap ((s0 : Int) + ((fat d.files x.2).data.length : Int)) = (s0 : Int) + ((fat d.files x.2).data.length : Int) := IntWalk.i64_in _ (by omega)
        clear hx hs1 hs2 hs0 hsum
        go_wp2_with (fail)
        go_quiet (fail)
        go_wp2
        go_roundw
        case rel => exact ⟨k + 1, _, by go_num, by omega, by rw [HS2.out]; exact int_eq (by omega), rfl⟩
        case measure => simp [intOf]; omega
      · obtain rfl : k = d.now.length := by omega
        rw [List.take_length]
        go_wp2
        go_ret
        exact ⟨rfl, _, rfl⟩
theorem infoIntR : (Tryz.prog.info? 3).map (fun i => (i.zero, i.size, i.bytes)) = some (some (.int .i64 0), 1, 8) := by kernel_rfl
set_option maxHeartbeats 2000000 in
set_option maxRecDepth 100000 in
theorem rCopyInts_any (w : World) (v : Value) (l : List Int) (h : IntsAt w v l) (hl : l.length ≤ 4294967296) : Calls Tryz.prog 45 #[v] w fun e w' => ∃ v', e = .returned v' ∧ w'.ownsRow w.heap.size 3 1 v' l.length (l.map (Value.int .i64)) ∧ Below w.heap.size w w' := by
  obtain ⟨i0, hi, hz0, hz1, hz2⟩ := info_parts infoIntR
  obtain ⟨ka, kn, kc, rfl⟩ := h.shape
  have hkn : kn = l.length := by
    rcases h with ⟨rfl, _, _, h2⟩ | ⟨b, off, cap, h2, _⟩
    · simp only [Value.slice.injEq] at h2; simp [h2.2.1]
    · simp only [Value.slice.injEq] at h2; exact h2.2.1
  subst hkn
  have HI := Lib.hid h
  clear h
  go_enter Tryz.func45, Tryz.ntmps45
  go_wp2_with (fail)
  go_loopw [3, 4] (fun u iv wr => ∃ k : Nat, iv = .int .i64 k ∧ k ≤ l.length ∧ wr.ownsRow w.heap.size 3 1 u k ((l.take k).map (Value.int .i64)) ∧ Below w.heap.size w wr) (fun _ iv _ => l.length - (intOf iv).toNat)
  case atStart => exact ⟨0, rfl, Nat.zero_le _, World.ownsRow_nil _ _ _ _, Below.refl _ _⟩
  case round =>
    obtain ⟨k, rfl, hk, hown, hbel⟩ := hrel
    have hsz := hbel.size
    by_cases hlt : k < l.length
    · obtain ⟨x, hx⟩ : ∃ x, l[k]? = some x := ⟨_, List.getElem?_eq_getElem hlt⟩
      rcases HI.out with ⟨h0, _⟩ | ⟨b, off, cap, hv, h1, h2, hc⟩
      · rw [h0] at hlt; simp at hlt
      simp only [Value.slice.injEq] at hv
      obtain ⟨rfl, -, rfl⟩ := hv
      have hcw := hc k x hx
      have hcr := (hbel.cell (World.block_lt_of_cell? w _ hcw)).trans hcw
      have ht : (l.take (k + 1)).map (Value.int .i64) = (l.take k).map (Value.int .i64) ++ [.int .i64 x] := by rw [List.take_add_one, hx]; simp
      have HT := Lib.hid ht
      have ik0 : (0 : Int) ≤ (k : Int) := by omega
      have ik1 : (k : Int) < (l.length : Int) := by omega
      have HB := Lib.hid hbel
      have HLT := Lib.hid hown.lt
      clear hx hc hcw ht hbel
      generalize (l.take k).map (Value.int .i64) = xs at *
      go_wp2_with (at_builtin; refine wpList_append_own _ rfl _ _ 24 rfl w.heap.size 3 i0 (.int .i64 0) 1 8 Tryz.underlying24 hi hz0 hz1 hz2 rfl (by decide) _ k xs rfl (hown.alloc _) ⟨wr.heap.size, 0, none⟩ 1 1 [.int .i64 x] rfl rfl ?c1 ?c2 ?c3 ?c4 ?c5 ?_)
      case c1 => exact World.news_of_block (cs := #[.int .i64 x]) (t := 3) (fr := (0, 0)) (heap_alloc_new wr _)
      case c2 => intro u hu; simp at hu; subst hu; rfl
      case c3 => unfold maxLen; omega
      case c4 => omega
      case c5 => simp; omega
      intro v' w5 hown5 hgrow5 hv5
      have hbel5 : Below w.heap.size w w5 := (HB.out.alloc hsz _).grown hgrow5 (by simp; omega) (fun j hj => (HLT.out j hj).1)
      rw [← HT.out] at hown5
      have HO5 := Lib.hid hown5
      have HB5 := Lib.hid hbel5
      clear hown5 hgrow5 hv5 hown hbel5
      go_wp2
      go_roundw
      case rel => exact ⟨k + 1, by go_num, by omega, HO5.out, HB5.out⟩
      case measure => simp [intOf]; omega
    · obtain rfl : k = l.length := by omega
      rw [List.take_length] at hown
      have HO := Lib.hid hown
      have HB := Lib.hid hbel
      clear hown hbel
      go_wp2
      go_ret
      exact ⟨_, rfl, HO.out, HB.out⟩
end Go.Proofs.YtfgpigblnkanpaaGreatDoor
