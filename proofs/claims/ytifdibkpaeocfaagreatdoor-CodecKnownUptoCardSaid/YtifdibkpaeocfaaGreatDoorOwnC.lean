/- A byte slice of the call's own, told by its cells (what a conversion from a string has made too), appended to. -/
import Derived.Test.YtifdibkpaeocfaaGreatDoorBld
import Derived.Test.YtifdibkpaeocfaaGreatDoorPk
import Derived.Deep.Upon
import Derived.Deep.MidRow
import Derived.Lib.AppendStr
namespace Go.Proofs.YtifdibkpaeocfaaGreatDoor
open Go.RowKit

def OwnC (w : World) (B : Nat) (v : Value) (l : List UInt8) : Prop :=
  ∃ g cap, v = .slice (some ⟨g, 0, none⟩) l.length cap ∧ B ≤ g ∧ l.length ≤ cap ∧ cap ≤ maxLen ∧ 0 < l.length ∧ (∀ j, j < l.length → w.cell? ⟨g, j, none⟩ = (l.map byteV)[j]?) ∧ ∀ j, j < cap → (w.cell? ⟨g, j, none⟩).isSome = true ∧ w.frozen? ⟨g, j, none⟩ = false
theorem OwnC.lt {w : World} {g cap : Nat} {l : List UInt8} (hp : 0 < l.length) (hle : l.length ≤ cap) (h : ∀ j, j < cap → (w.cell? ⟨g, j, none⟩).isSome = true ∧ w.frozen? ⟨g, j, none⟩ = false) : g < w.heap.size := by
  obtain ⟨v, hv⟩ := Option.isSome_iff_exists.1 (h 0 (by omega)).1
  exact World.block_lt_of_cell? w _ hv
theorem OwnC.below {w w' : World} {B : Nat} {v : Value} {l : List UInt8} (h : OwnC w B v l) (hb : Below w.heap.size w w') : OwnC w' B v l := by
  obtain ⟨g, cap, hv, h1, h2, h3, h4, h5, h6⟩ := h
  have hg := OwnC.lt h4 h2 h6
  exact ⟨g, cap, hv, h1, h2, h3, h4, fun j hj => (hb.cell (p := ⟨g, j, none⟩) hg).trans (h5 j hj), fun j hj => ⟨by rw [hb.cell (p := ⟨g, j, none⟩) hg]; exact (h6 j hj).1, by rw [(bcell hb).2 g j hg]; exact (h6 j hj).2⟩⟩
theorem OwnC.text {w : World} {B : Nat} {v : Value} {l : List UInt8} (h : OwnC w B v l) : (convert 26 9 v).run Tryz.prog w = .ok (strV l) w := by
  obtain ⟨g, cap, rfl, _, _, _, _, h5, _⟩ := h
  rw [run_convert_bytes_arg w 26 5 Tryz.underlying26 Tryz.underlying5 g 0 l.length cap (l.map fun b => (b.toNat : Int)) (by simp) ?_ 9 Tryz.underlying9, strOfNums_bytes]
  intro i hi
  have hi' : i < l.length := by simpa using hi
  rw [Nat.zero_add, h5 i hi', List.getElem?_map, List.getD, List.getElem?_map, List.getElem?_eq_getElem hi']
  rfl
theorem run_append_ownC (ty : TypeId) {w : World} {B : Nat} {v : Value} {l : List UInt8} (h : OwnC w B v l) (s : List UInt8) (hB : B ≤ w.heap.size) (hs : l.length + s.length ≤ 140737488355328) :
    ∃ v' w', (Builtin.append_ #[26, 9] ty #[v, .string (str s)]).run Tryz.prog w = .ok v' w' ∧ OwnC w' B v' (l ++ s) ∧ Below B w w' := by
  obtain ⟨i0, hi, hz0, hz1, hz2⟩ := info_parts infoByte
  obtain ⟨g, cap, rfl, h1, h2, h3, h4, h5, h6⟩ := h
  have hg := OwnC.lt h4 h2 h6
  have es := str_size s
  have ec : Lib.strCells (str s) = s.map byteV := by rw [Lib.strCells, str_data]; rfl
  have el : (Lib.strCells (str s)).length = s.length := by rw [ec, List.length_map]
  by_cases hroom : l.length + s.length ≤ cap
  · have hsrc : Src Tryz.prog i0.size 9 (.string (str s)) s.length (Lib.strCells (str s)) w := by
      have := Src.ofString (P := Tryz.prog) (w := w) (tx := 9) Tryz.underlying9 (str s)
      rw [es] at this
      rw [hz1]
      exact this
    have hr := run_append_room_src (P := Tryz.prog) w 26 9 ty 5 i0 Tryz.underlying26 hi g 0 l.length cap (.string (str s)) s.length (Lib.strCells (str s)) hsrc hroom (fun j hj => by
        rw [hz1, Nat.zero_add, Nat.mul_one]; exact (h6 _ (by omega)).1) (fun j hj => by
        rw [hz1, Nat.zero_add, Nat.mul_one]; exact (h6 _ (by omega)).2)
    rw [hz1, Nat.zero_add, Nat.mul_one] at hr
    refine ⟨_, _, hr, ⟨g, cap, by rw [List.length_append], h1, by rw [List.length_append]; exact hroom, h3, by rw [List.length_append]; omega, ?_, ?_⟩, ?_⟩
    · intro j hj
      rw [List.length_append] at hj
      rw [List.map_append]
      by_cases hjl : j < l.length
      · rw [World.cell?_setCells_out _ _ _ _ _ (fun _ _ => Or.inl hjl), h5 j hjl, List.getElem?_append_left (by simpa using hjl)]
      · have := World.cell?_setCells_in g (Lib.strCells (str s)) l.length w (fun j hj => (h6 _ (by omega)).1) (j - l.length) (by omega)
        rw [show l.length + (j - l.length) = j from by omega] at this
        rw [this, List.getElem?_append_right (by simpa using hjl), List.length_map]
        rw [← ec, List.getElem?_eq_getElem (by omega)]
    · intro j hj
      rw [World.frozen?_setCells]
      exact ⟨World.isSome_setCells _ _ _ _ _ (h6 j hj).1, (h6 j hj).2⟩
    · generalize Lib.strCells (str s) = vs
      generalize l.length = o
      clear hr hsrc
      have key : ∀ (vs : List Value) (o : Nat) (w1 : World), Below B w w1 → Below B w (w1.setCells g o vs) := by
        intro vs
        induction vs with
        | nil => intro o w1 hb; exact hb
        | cons u vs ih => intro o w1 hb; exact ih (o + 1) _ (hb.setCell h1 u)
      exact key vs o w (Below.refl _ _)
  · have hr := Lib.run_append_grow_string (P := Tryz.prog) w 26 9 ty 5 i0 (.int .u8 0) Tryz.underlying26 Tryz.underlying9 hi hz0 ⟨g, 0, none⟩ l.length cap (l.map byteV) (by rw [hz1]; simp) (fun j u hu => by
        have hj : j < l.length := by
          obtain ⟨h, _⟩ := List.getElem?_eq_some_iff.1 hu
          simpa using h
        have hadd : (⟨g, 0, none⟩ : Addr).add j = ⟨g, j, none⟩ := by unfold Addr.add; split <;> simp_all
        rw [hadd, h5 j hj, hu]) (str s) (by rw [es]; omega) (by rw [es]; omega) (by rw [hz2, es]; exact growslice_fits (by omega) (by omega))
    rw [es] at hr
    have hge := grownCap_ge w (l.length + s.length) cap 5
    have hmx : grownCap w (l.length + s.length) cap 5 ≤ maxLen := grownCap_le_maxLen w (l.length + s.length) cap 5 (by unfold maxLen; omega)
    generalize grownCap w (l.length + s.length) cap 5 = c2 at *
    have hz : (Builtin.zeroCells (Value.int .u8 0).cells (c2 - (l.length + s.length))).size = c2 - (l.length + s.length) := by
      rw [size_zeroCells]
      show _ * 1 = _
      omega
    have hrow : (l.map byteV).toArray ++ (Lib.strCells (str s)).toArray = ((l ++ s).map byteV).toArray := by rw [ec]; simp
    rw [hrow] at hr
    have hn : Blk (w.drew.alloc (.cells (((l ++ s).map byteV).toArray ++ Builtin.zeroCells (Value.int .u8 0).cells (c2 - (l.length + s.length))) 5)) w.heap.size ((l ++ s).map byteV ++ (Builtin.zeroCells (Value.int .u8 0).cells (c2 - (l.length + s.length))).toList) 5 := by
      have := Blk.new w.drew ((l ++ s).map byteV ++ (Builtin.zeroCells (Value.int .u8 0).cells (c2 - (l.length + s.length))).toList) 5
      have e : ((l ++ s).map byteV ++ (Builtin.zeroCells (Value.int .u8 0).cells (c2 - (l.length + s.length))).toList).toArray = ((l ++ s).map byteV).toArray ++ Builtin.zeroCells (Value.int .u8 0).cells (c2 - (l.length + s.length)) := by
        apply Array.ext'
        simp
      rw [e] at this
      exact this
    refine ⟨_, _, hr, ⟨w.heap.size, c2, by rw [List.length_append], hB, by rw [List.length_append]; exact hge, hmx, by rw [List.length_append]; omega, ?_, ?_⟩, ((Below.refl B w).drew).alloc hB _⟩
    · intro j hj
      rw [hn.cell, List.getElem?_append_left (by simpa using hj)]
    · intro j hj
      refine ⟨?_, hn.free j⟩
      rw [hn.cell, List.getElem?_eq_getElem (by simp [hz]; omega)]
      rfl
theorem wpList_append_ownC {w : World} {ops : Array Oper} {rest : List Oper} {o : Oper} {a : Act} {Q : Exit → Act → World → Prop} (hgd : o.guard = none) (sl x : Operand)
    (ho : o.op = .call { callee := .builtin .append, args := #[sl, x], argTypes := #[26, 9] })
    {B : Nat} {v : Value} {l : List UInt8} (hv : a.eval sl = v) (h : OwnC w B v l) (s : List UInt8) (hx : a.eval x = .string (str s)) (hB : B ≤ w.heap.size) (hs : l.length + s.length ≤ 140737488355328)
    (hK : ∀ v' w', OwnC w' B v' (l ++ s) → Below B w w' → wpList Tryz.prog ops Q rest (a.put o.dst v') w') : wpList Tryz.prog ops Q (o :: rest) a w := by
  refine wpList_plain hgd fun K hK' => ?_
  obtain ⟨v', w', hr, h2, h3⟩ := run_append_ownC o.type h s hB hs
  unfold Oper.wp
  simp [execOp, ho, resolve, invoke, builtin, hv, hx, hr, Result.andThen]
  exact hK' _ _ (hK v' w' h2 h3)
end Go.Proofs.YtifdibkpaeocfaaGreatDoor
