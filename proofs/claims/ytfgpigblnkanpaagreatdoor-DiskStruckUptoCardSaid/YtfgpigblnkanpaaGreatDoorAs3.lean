/- errors.As at a Fault: the target gets it. -/
import Derived.Test.YtfgpigblnkanpaaGreatDoorAs2
import Derived.Laws.Tables
import Derived.Test.YtfgpigblnkanpaaGreatDoorSum
namespace Go.Proofs.YtfgpigblnkanpaaGreatDoor
open Go.RowKit Go.Extern.Stop Go.Stop Go.Extern

theorem asRls (v x : Value) : ReflectliteValue.set #[v, x] = (do
    let (some (dst, a, fl), some (src, b, _)) := (← ReflectliteValue.parts v, ← ReflectliteValue.parts x)
      | unsupported (.noEntry "extern/(internal/reflectlite.Value).Set.zeroValue")
    if fl / ReflectliteValue.flagAddr % 2 == 0 then unsupported (.noEntry "extern/(internal/reflectlite.Value).Set.unaddressable")
    let val ← loadVar src b
    if ← Rtype.directlyAssignable dst src then storeVar dst a val
    else if ← Rtype.implements dst src then
      if (← Rtype.kind src) == 20 then
        match val with
        | .nilIface => unsupported (.noEntry "extern/reflectlite: a nil value of one interface type handed on as a value of another")
        | _ => storeVar dst a val
      else storeVar dst a (.iface src val)
    else panicString ("reflectlite.Set: value of type " ++ (← Rtype.spelt src) ++ " is not assignable to type " ++ (← Rtype.spelt dst))
    pure (.tuple #[])) := rfl
theorem asPartsFa (a : Addr) (w : World) : (ReflectliteValue.parts (.agg #[.pointer (some ⟨2, 135, none⟩), .pointer (some a), .int .u64 409])).run Tryz.prog w = .ok (some (135, a, 409)) w := by kernel_rfl
theorem asPartsF (a : Addr) (w : World) : (ReflectliteValue.parts (.agg #[.pointer (some ⟨2, 135, none⟩), .pointer (some a), .int .u64 153])).run Tryz.prog w = .ok (some (135, a, 153)) w := by kernel_rfl
theorem asDirectF (w : World) : (Rtype.directlyAssignable 135 135).run Tryz.prog w = .ok true w := by kernel_rfl
theorem infoFault : (Tryz.prog.info? 135).map (·.size) = some 3 := by kernel_rfl
theorem asSetF (g h : Nat) (x y z : Int) (old : List Value) (W : World) (hb : Blk W h [.int .i64 x, .int .i64 y, .int .i64 z] 135) (ht : Blk W g old 135) (hl : old.length = 3) :
    (ReflectliteValue.set #[.agg #[.pointer (some ⟨2, 135, none⟩), .pointer (some ⟨g, 0, none⟩), .int .u64 409], .agg #[.pointer (some ⟨2, 135, none⟩), .pointer (some ⟨h, 0, none⟩), .int .u64 153]]).run Tryz.prog W
      = .ok (.tuple #[]) (W.setRow g #[.int .i64 x, .int .i64 y, .int .i64 z]) := by
  have hld := run_loadVar_row (P := Tryz.prog) W h 135 135 _ _ _ hb Tryz.underlying135 rfl infoFault
  have hst := run_storeVar_row (P := Tryz.prog) W g 135 135 old.toArray #[.int .i64 x, .int .i64 y, .int .i64 z] ht infoFault
  rw [asRls]
  simp only [Sem.run_bind, asPartsFa, asPartsF, Result.andThen]
  simp [ReflectliteValue.flagAddr, hld, Result.andThen, asDirectF, hst (by simpa using hl) (by simp [Value.oneCell'])]

set_option maxHeartbeats 4000000 in
set_option maxRecDepth 100000 in
theorem As_hit (x y z : Int) (g : Nat) (old : List Value) (w : World) (hg : ErrorLaid w) (ht : Blk w g old 135) (hl : old.length = 3) : Calls Tryz.prog 83 #[faultsV x y z, .iface 137 (.pointer (some ⟨g, 0, none⟩))] w fun e w' => e = .returned (.bool true) ∧ Blk w' g [.int .i64 x, .int .i64 y, .int .i64 z] 135 ∧ ∀ B, B ≤ g → Below B w w' := by
  have h11 := @run_callFunc_extern Tryz.prog 154 _ (ReflectliteValue.method (ReflectliteValue.valueError "reflectlite.Value.Elem" 0) ReflectliteValue.elem) Tryz.func154 (by kernel_rfl) (by kernel_rfl) (by kernel_rfl) (by kernel_rfl)
  have h12 := @run_callFunc_extern Tryz.prog 155 _ ReflectliteValue.set Tryz.func155 (by kernel_rfl) (by kernel_rfl) (by kernel_rfl) (by kernel_rfl)
  have h6 := @run_callFunc_extern Tryz.prog 129 _ (fun args => ReflectliteValue.unpack (args.getD 0 (.tuple #[]))) Tryz.func129 (by kernel_rfl) (by kernel_rfl) (by kernel_rfl) (by kernel_rfl)
  have h7 := @run_callFunc_extern Tryz.prog 130 _ (ReflectliteValue.methodAny (ReflectliteValue.valueError "reflectlite.Value.Type" 0) (fun t _ _ _ => ReflectliteType.toType t)) Tryz.func130 (by kernel_rfl) (by kernel_rfl) (by kernel_rfl) (by kernel_rfl)
  have h8 := @run_callFunc_extern Tryz.prog 131 _ (ReflectliteValue.method (ReflectliteValue.valueError "reflectlite.Value.IsNil" 0) ReflectliteValue.isNil) Tryz.func131 (by kernel_rfl) (by kernel_rfl) (by kernel_rfl) (by kernel_rfl)
  have h27 := @run_callFunc_extern Tryz.prog 207 _ (ReflectliteType.abiMethod fun t => do pure (.int .u8 (← Rtype.kind t))) Tryz.func207 (by kernel_rfl) (by kernel_rfl) (by kernel_rfl) (by kernel_rfl)
  have h37 := @run_callFunc_extern Tryz.prog 220 _ (ReflectliteType.method ReflectliteType.elem) Tryz.func220 (by kernel_rfl) (by kernel_rfl) (by kernel_rfl) (by kernel_rfl)
  have h38 := @run_callFunc_extern Tryz.prog 221 _ (ReflectliteType.relation "Implements" ReflectliteType.implements_) Tryz.func221 (by kernel_rfl) (by kernel_rfl) (by kernel_rfl) (by kernel_rfl)
  have h10 := @run_callFunc_extern Tryz.prog 127 _ ReflectliteType.typeOf Tryz.func127 (by kernel_rfl) (by kernel_rfl) (by kernel_rfl) (by kernel_rfl)
  have h35 := @run_callFunc_extern Tryz.prog 218 _ (ReflectliteType.relation "AssignableTo" ReflectliteType.assignableTo) Tryz.func218 (by kernel_rfl) (by kernel_rfl) (by kernel_rfl) (by kernel_rfl)
  have tO := asTypeOfF
  have mA := asMethodAssignableTo
  have aE := asAssignFF
  have f6 := asValueOfP
  have fF := asValueOfF
  have f7 := asTypeP
  have mK := asMethodKind
  have mE := asMethodElem
  have mI := asMethodImplements
  have kP := asKindP
  have kF := asKindF
  have eP := asElemP
  have iF := asImplementsF
  have hlt : 0 < w.heap.size := World.block_lt_of_cell? w _ hg
  have hgl := ht.lt
  have n8 := asIsNilP ⟨w.heap.size, 0, none⟩ ⟨g, 0, none⟩ ((w.alloc (.cells #[.pointer (some ⟨g, 0, none⟩)] 137)).alloc (.cells #[.pointer (some ⟨2, 137, none⟩), .pointer (some ⟨w.heap.size, 0, none⟩), .int .u64 150] 176)) (by simp)
  have hg2 : ((w.alloc (.cells #[.pointer (some ⟨g, 0, none⟩)] 137)).alloc (.cells #[.pointer (some ⟨2, 137, none⟩), .pointer (some ⟨w.heap.size, 0, none⟩), .int .u64 150] 176)).cell? ⟨0, 0, none⟩ = some (.iface 207 (.agg #[.pointer (some ⟨2, 33, none⟩)])) := by
    rw [World.cell?_alloc_lt _ _ ⟨0, 0, none⟩ (by simp), World.cell?_alloc_lt _ _ ⟨0, 0, none⟩ hlt]; exact hg
  obtain ⟨W1, hW1⟩ : ∃ W1, W1 = w.alloc (.cells #[.pointer (some ⟨g, 0, none⟩)] 137) := ⟨_, rfl⟩
  have hrow1 : Blk W1 g old 135 := hW1 ▸ ht.alloc _
  have hrow2 := (hrow1.alloc (.cells #[.pointer (some ⟨2, 137, none⟩), .pointer (some ⟨w.heap.size, 0, none⟩), .int .u64 150] 176)).alloc (.cells #[.pointer (some ⟨2, 137, none⟩), .pointer (some ⟨w.heap.size, 0, none⟩), .int .u64 150] 176)
  have hptr : ((W1.alloc (.cells #[.pointer (some ⟨2, 137, none⟩), .pointer (some ⟨w.heap.size, 0, none⟩), .int .u64 150] 176)).alloc (.cells #[.pointer (some ⟨2, 137, none⟩), .pointer (some ⟨w.heap.size, 0, none⟩), .int .u64 150] 176)).cell? ⟨w.heap.size, 0, none⟩ = some (.pointer (some ⟨g, 0, none⟩)) := by
    have hb : Blk W1 w.heap.size [.pointer (some ⟨g, 0, none⟩)] 137 := hW1 ▸ Blk.new w _ _
    exact ((hb.alloc _).alloc _).cell 0
  have el := asElemVP ⟨w.heap.size, 0, none⟩ ⟨g, 0, none⟩ _ hptr
  have hsz : W1.heap.size = w.heap.size + 1 := by rw [hW1]; simp
  have st := asSetF g (w.heap.size + 1 + 1 + 1) x y z old (((W1.alloc (.cells #[.pointer (some ⟨2, 137, none⟩), .pointer (some ⟨w.heap.size, 0, none⟩), .int .u64 150] 176)).alloc (.cells #[.pointer (some ⟨2, 137, none⟩), .pointer (some ⟨w.heap.size, 0, none⟩), .int .u64 150] 176)).alloc (.cells #[.int .i64 x, .int .i64 y, .int .i64 z] 135)) (by
    have hn := Blk.new ((W1.alloc (.cells #[.pointer (some ⟨2, 137, none⟩), .pointer (some ⟨w.heap.size, 0, none⟩), .int .u64 150] 176)).alloc (.cells #[.pointer (some ⟨2, 137, none⟩), .pointer (some ⟨w.heap.size, 0, none⟩), .int .u64 150] 176)) [.int .i64 x, .int .i64 y, .int .i64 z] 135
    have e : ((W1.alloc (.cells #[.pointer (some ⟨2, 137, none⟩), .pointer (some ⟨w.heap.size, 0, none⟩), .int .u64 150] 176)).alloc (.cells #[.pointer (some ⟨2, 137, none⟩), .pointer (some ⟨w.heap.size, 0, none⟩), .int .u64 150] 176)).heap.size = w.heap.size + 1 + 1 + 1 := by simp [hsz]
    rw [e] at hn
    exact hn) (hrow2.alloc _) hl
  have HR := Lib.hid (hrow2.alloc (.cells #[.int .i64 x, .int .i64 y, .int .i64 z] 135))
  have HB : Hid (∀ B, B ≤ g → Below B w (((W1.alloc (.cells #[.pointer (some ⟨2, 137, none⟩), .pointer (some ⟨w.heap.size, 0, none⟩), .int .u64 150] 176)).alloc (.cells #[.pointer (some ⟨2, 137, none⟩), .pointer (some ⟨w.heap.size, 0, none⟩), .int .u64 150] 176)).alloc (.cells #[.int .i64 x, .int .i64 y, .int .i64 z] 135))) := fun B hB => by
    have h1 : Below B w W1 := hW1 ▸ (Below.refl B w).alloc (by omega) _
    exact ((h1.alloc (by omega) _).alloc (by simp; omega) _).alloc (by simp; omega) _
  subst hW1
  clear hrow1 hrow2 hptr hsz
  unfold faultsV
  go_enter Tryz.func83, Tryz.ntmps83
  go_wp2
  refine wp_loop_rounds 1 ?_
  rw [rounds_succ]
  go_wp2
  go_ret
  exact ⟨rfl, Blk.row HR.out, fun B hB => below_row (HB.out B hB) hB _⟩
end Go.Proofs.YtfgpigblnkanpaaGreatDoor
