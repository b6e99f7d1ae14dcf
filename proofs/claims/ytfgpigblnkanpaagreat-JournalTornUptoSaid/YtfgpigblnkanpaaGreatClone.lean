/- Bytes made, copied, cloned: what the journal's walks share with the codec's. -/
import Derived.Test.YtfgpigblnkanpaaGreatB
import Derived.Test.YtfgpigblnkanpaaGreatSum
import Derived.Stop.IfaceNil
import Derived.WalkLawsBesides
import Derived.Deep.DeepCutAuto
import Derived.Lib.BufferWrite
import Derived.Lib.UnsafeStr
namespace Go.Proofs.YtfgpigblnkanpaaGreat
open Go.RowKit
set_option linter.unusedVariables false

theorem byte_of (c : Nat) : Value.int .u8 ((c : Int) % 256) = byteV c.toUInt8 := by
  simp only [byteV, Nat.toUInt8, UInt8.toNat_ofNat', Value.int.injEq, true_and]
  omega
theorem four_cells (c : Nat) : [Value.int .u8 ((c : Int) % 256), Value.int .u8 ((c : Int) / 256 % 256), Value.int .u8 ((c : Int) / 65536 % 256), Value.int .u8 ((c : Int) / 16777216 % 256)] = [c.toUInt8, (c / 256).toUInt8, (c / 65536).toUInt8, (c / 16777216).toUInt8].map byteV := by
  have e1 : (c : Int) / 256 = ((c / 256 : Nat) : Int) := by omega
  have e2 : (c : Int) / 65536 = ((c / 65536 : Nat) : Int) := by omega
  have e3 : (c : Int) / 16777216 = ((c / 16777216 : Nat) : Int) := by omega
  rw [e1, e2, e3, byte_of, byte_of, byte_of, byte_of]
  rfl
theorem infoByteU : (Tryz.prog.info? 5).map (fun i => (i.zero, i.size, i.bytes)) = some (some (.int .u8 0), 1, 1) := by kernel_rfl
theorem sizeByteU : (Tryz.prog.info? 5).map (·.size) = some 1 := by kernel_rfl
theorem cellsByteU : Tryz.prog.cellsOf 5 = 1 := by kernel_rfl
theorem size_str' (l : List UInt8) : (str l).data.toList = l := rfl

/-- A row of so many noughts. -/
def zerosV (n : Nat) : List Value := List.replicate n (.int .u8 0)
theorem madeBytes (n : Nat) : madeCells (Value.int .u8 0).cells n = (zerosV n).toArray := by
  apply Array.ext
  · simp [size_madeCells, zerosV]
  · intro i h1 h2
    simp [madeCells, Value.cells, zerosV, Nat.mod_one]
theorem make_bytes (W : World) (n : Nat) (hn : n ≤ 281474976710656) (x : Int) (hx : x = n) : (Instr.makeSlice 60 (.int .i64 x) (.int .i64 x)).run Tryz.prog W = .ok (.slice (some ⟨W.heap.size, 0, none⟩) n n) (W.alloc (.cells (zerosV n).toArray 5)) := by
  subst hx
  obtain ⟨i0, hi, hz0, hz1, hz2⟩ := info_parts infoByteU
  have h := run_make (P := Tryz.prog) W 60 5 i0 (.int .u8 0) Tryz.underlying60 hi hz0 .i64 .i64 (n : Int) (n : Int) (by omega) (by omega) (by rw [hz2]; omega) (by omega)
  rw [hz1, Nat.mul_one, Int.toNat_natCast, madeBytes] at h
  exact h
/-- A text copied into a row. -/
theorem copy_text {w : World} {g : Nat} {xs : List Value} (h : Blk w g xs 5) (o dLen dCap : Nat) (t : List UInt8) (ht : t.length ≤ dLen) (hf : o + t.length ≤ xs.length) (ty : TypeId) :
    (Builtin.copy_ #[60, 9] ty #[.slice (some ⟨g, o, none⟩) dLen dCap, .string (str t)]).run Tryz.prog w = .ok (.int .i64 t.length) (w.setRow g (xs.take o ++ t.map byteV ++ xs.drop (o + t.length)).toArray) := by
  have := Lib.run_copy_row_string (P := Tryz.prog) w 60 9 ty 5 g o dLen dCap (str t) xs.toArray 5 Tryz.underlying60 sizeByteU h (by rw [str_size]; exact ht) (by rw [str_size]; simpa using hf)
  rw [str_size] at this
  exact this
theorem below_setRow {B : Nat} {a w : World} (h : Below B a w) {g : Nat} (hg : B ≤ g) (cs : Array Value) : Below B a (w.setRow g cs) :=
  h.trans ⟨rfl, rfl, rfl, by simp [World.setRow], fun k hk => setRow_other _ _ _ _ (by omega)⟩
theorem Blk.setRow {w : World} {b : Nat} {xs ys : List Value} {t : TypeId} (h : Blk w b xs t) : Blk (w.setRow b ys.toArray) b ys t := setRow_heap w b _ _ t _ h

set_option maxHeartbeats 400000 in
set_option maxRecDepth 100000 in
theorem slClone_any (l : List UInt8) (w : World) (hlim : l.length ≤ 281474976710656) :
    Calls Tryz.prog 72 #[.string (str l)] w fun e w' => e = .returned (strV l) ∧ Below w.heap.size w w' := by
  have e1 := str_size l
  by_cases h0 : l = []
  · subst h0
    go_enter Tryz.func72, Tryz.ntmps72
    go_wp2
    go_ret
    exact ⟨rfl, Below.refl _ _⟩
  · have hl0 : 0 < l.length := List.length_pos_iff.2 h0
    have hmk := make_bytes w l.length hlim (l.length : Int) rfl
    have hz := Blk.new w (zerosV l.length) 5
    have hcp := copy_text hz 0 l.length l.length l (Nat.le_refl _) (by simp [zerosV]) 3
    have hrow : (zerosV l.length).take 0 ++ l.map byteV ++ (zerosV l.length).drop (0 + l.length) = l.map byteV := by simp [zerosV]
    rw [hrow] at hcp
    have hY := Blk.setRow (ys := l.map byteV) hz
    have hUS := Lib.run_unsafeString_row (P := Tryz.prog) ((w.alloc (.cells (zerosV l.length).toArray 5)).setRow w.heap.size (l.map byteV).toArray) 120 3 9 5 Tryz.underlying120 cellsByteU w.heap.size l.length (by unfold Blk at hY; unfold World.shape?; rw [hY]; simp) l h0 (Nat.le_refl _) (by omega)
      (fun j x hx => by
        have hj : (⟨w.heap.size, 0, none⟩ : Addr).add j = ⟨w.heap.size, j, none⟩ := by simp [Addr.add]; omega
        rw [hj, hY.cell, List.getElem?_map, hx]; rfl)
    have hbel : Below w.heap.size w ((w.alloc (.cells (zerosV l.length).toArray 5)).setRow w.heap.size (l.map byteV).toArray) := below_setRow ((Below.refl _ w).alloc (Nat.le_refl _) _) (Nat.le_refl _) _
    clear hY hz hrow h0
    go_enter Tryz.func72, Tryz.ntmps72
    go_wp2
    go_ret
    exact ⟨rfl, Lib.below_freeze hbel (p := ⟨w.heap.size, 0, none⟩) (Nat.le_refl _) _⟩
set_option maxRecDepth 100000 in
theorem Clone_any (l : List UInt8) (w : World) (hlim : l.length ≤ 281474976710656) :
    Calls Tryz.prog 58 #[.string (str l)] w fun e w' => e = .returned (strV l) ∧ Below w.heap.size w w' := by
  go_enter Tryz.func58, Tryz.ntmps58
  go_wp2_with (fail)
  refine (slClone_any l _ hlim).mono ?_
  rintro e w1 ⟨rfl, hb⟩
  go_wp2
  go_ret
  exact ⟨rfl, hb⟩

end Go.Proofs.YtfgpigblnkanpaaGreat
