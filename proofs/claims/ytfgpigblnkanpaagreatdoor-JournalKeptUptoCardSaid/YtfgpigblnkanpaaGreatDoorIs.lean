/- errors.Is by its contracts, at the errors of package api: a number, a fault. The walk goes through Go's own text of errors.Is and errors.is. -/
import Derived.Test.YtfgpigblnkanpaaGreatDoorB
import Derived.Stop.IfaceNil
import Derived.WalkLawsBesides
import Derived.Deep.DeepCutAuto
import Derived.LaidEql
import Derived.Stop.Asserts
import Derived.Lib.IfaceEq
import Derived.RowKitTokens
namespace Go.Proofs.YtfgpigblnkanpaaGreatDoor
open Go.RowKit Go.Extern.Stop Go.Stop Go.Extern

def faultsV (no line at_ : Int) : Value := .iface 135 (.agg #[.int .i64 no, .int .i64 line, .int .i64 at_])
theorem isTypeOf (v : Value) (w : World) : (Extern.ReflectliteType.typeOf #[.iface 102 v]).run Tryz.prog w = .ok (.iface 207 (.agg #[.pointer (some ⟨2, 102, none⟩)])) w := by kernel_rfl
theorem isMethodComparable (v : Value) (w : World) : (Go.method 383 207 v "Comparable").run Tryz.prog w = .ok (219, v) w := by kernel_rfl
def comparableX : Array Value → Sem Value := Extern.ReflectliteType.method fun t => do Extern.Rtype.noPackHeld "Comparable" t; pure (.bool (← typeInfo t).comparable)
theorem isComparable (w : World) : (comparableX #[.agg #[.pointer (some ⟨2, 102, none⟩)]]).run Tryz.prog w = .ok (.bool true) w := by kernel_rfl
theorem compErrno : (Tryz.prog.info? 102).map (·.comparable) = some true := by kernel_rfl
theorem noIsN (v : Value) (xT : TypeId) (w : World) : (Instr.typeAssert (.iface 102 v) xT 209 true).run Tryz.prog w = .ok (.tuple #[.nilIface, .bool false]) w := run_typeAssert_lacksB Tryz.underlying209 (by kernel_rfl) (by kernel_rfl) v xT w
theorem noUnwrapN (v : Value) (xT : TypeId) (w : World) : (Instr.typeAssert (.iface 102 v) xT 212 true).run Tryz.prog w = .ok (.tuple #[.nilIface, .bool false]) w := run_typeAssert_lacksB Tryz.underlying212 (by kernel_rfl) (by kernel_rfl) v xT w
theorem noUnwrapsN (v : Value) (xT : TypeId) (w : World) : (Instr.typeAssert (.iface 102 v) xT 213 true).run Tryz.prog w = .ok (.tuple #[.nilIface, .bool false]) w := run_typeAssert_lacksB Tryz.underlying213 (by kernel_rfl) (by kernel_rfl) v xT w
theorem noIsF (v : Value) (xT : TypeId) (w : World) : (Instr.typeAssert (.iface 135 v) xT 209 true).run Tryz.prog w = .ok (.tuple #[.nilIface, .bool false]) w := run_typeAssert_lacksB Tryz.underlying209 (by kernel_rfl) (by kernel_rfl) v xT w
theorem hasUnwrapF (v : Value) (xT : TypeId) (w : World) : (Instr.typeAssert (.iface 135 v) xT 212 true).run Tryz.prog w = .ok (.tuple #[.iface 135 v, .bool true]) w := run_typeAssert_hasB Tryz.underlying212 (by kernel_rfl) v xT w

set_option maxHeartbeats 1000000 in
set_option maxRecDepth 100000 in
theorem Is_errno (k n : Int) (w : World) : Calls Tryz.prog 82 #[.iface 102 (.int .i64 k), .iface 102 (.int .i64 n)] w fun e w' => e = .returned (.bool (k == n)) ∧ w = w' := by
  have h8 := @run_callFunc_extern Tryz.prog 127 _ Extern.ReflectliteType.typeOf Tryz.func127 (by kernel_rfl) (by kernel_rfl) (by kernel_rfl) (by kernel_rfl)
  have h32 := @run_callFunc_extern Tryz.prog 219 _ comparableX Tryz.func219 (by kernel_rfl) (by kernel_rfl) (by kernel_rfl) (by kernel_rfl)
  have tT := isTypeOf
  have cT := isComparable
  have mR := isMethodComparable
  have nE := noIsN
  have uE := noUnwrapN
  have vE := noUnwrapsN
  have heq := fun w => Lib.run_eql_iface_int (P := Tryz.prog) w (k := .i64) k n Tryz.underlying33 compErrno Tryz.underlying102
  by_cases hkn : k = n
  · have hb : (k == n) = true := by simpa using hkn
    rw [hb] at heq ⊢
    have HK := Lib.hid hkn
    clear hkn hb
    go_enter Tryz.func82, Tryz.ntmps82
    go_wp2
    refine wp_loop_rounds 1 ?_
    rw [rounds_succ]
    go_wp2
    go_ret
    exact ⟨rfl, rfl⟩
  · have hb : (k == n) = false := by simpa using hkn
    rw [hb] at heq ⊢
    have HK := Lib.hid hkn
    clear hkn hb
    go_enter Tryz.func82, Tryz.ntmps82
    go_wp2
    refine wp_loop_rounds 1 ?_
    rw [rounds_succ]
    go_wp2
    go_ret
    exact ⟨rfl, rfl⟩

theorem methodUnwrapF (v : Value) (w : World) : (Go.method 383 135 v "Unwrap").run Tryz.prog w = .ok (212, v) w := by kernel_rfl
set_option maxHeartbeats 1000000 in
set_option maxRecDepth 100000 in
theorem Is_fault (no line at_ n : Int) (w : World) : Calls Tryz.prog 82 #[faultsV no line at_, .iface 102 (.int .i64 n)] w fun e w' => e = .returned (.bool (no == n)) ∧ Below w.heap.size w w' := by
  have h8 := @run_callFunc_extern Tryz.prog 127 _ Extern.ReflectliteType.typeOf Tryz.func127 (by kernel_rfl) (by kernel_rfl) (by kernel_rfl) (by kernel_rfl)
  have h32 := @run_callFunc_extern Tryz.prog 219 _ comparableX Tryz.func219 (by kernel_rfl) (by kernel_rfl) (by kernel_rfl) (by kernel_rfl)
  have tT := isTypeOf
  have cT := isComparable
  have mR := isMethodComparable
  have nE := noIsN
  have uE := noUnwrapN
  have vE := noUnwrapsN
  have nF := noIsF
  have uF := hasUnwrapF
  have mU := methodUnwrapF
  have heq := fun w => Lib.run_eql_iface_int (P := Tryz.prog) w (k := .i64) no n Tryz.underlying33 compErrno Tryz.underlying102
  have hty := fun w => run_eql_iface_types (P := Tryz.prog) 135 102 (.agg #[.int .i64 no, .int .i64 line, .int .i64 at_]) (.int .i64 n) Tryz.underlying33 (by decide) w
  unfold faultsV
  by_cases hkn : no = n
  · have hb : (no == n) = true := by simpa using hkn
    rw [hb] at heq ⊢
    have HK := Lib.hid hkn
    clear hkn hb
    go_enter Tryz.func82, Tryz.ntmps82
    go_wp2
    refine wp_loop_rounds 2 ?_
    rw [rounds_succ]
    go_wp2
    rw [rounds_succ]
    go_wp2
    go_ret
    exact ⟨rfl, (Below.refl _ _).alloc (Nat.le_refl _) _⟩
  · have hb : (no == n) = false := by simpa using hkn
    rw [hb] at heq ⊢
    have HK := Lib.hid hkn
    clear hkn hb
    go_enter Tryz.func82, Tryz.ntmps82
    go_wp2
    refine wp_loop_rounds 2 ?_
    rw [rounds_succ]
    go_wp2
    rw [rounds_succ]
    go_wp2
    go_ret
    exact ⟨rfl, (Below.refl _ _).alloc (Nat.le_refl _) _⟩
end Go.Proofs.YtfgpigblnkanpaaGreatDoor
