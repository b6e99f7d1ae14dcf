/- errors.Is by its contracts, at the errors of package api: a number, a fault. The walk goes through Go's own text of errors.Is and errors.is. -/
import Derived.Test.YtifdibkpaeocfaaDoorUnpack
import Derived.LaidEql
import Derived.Stop.Asserts
import Derived.Lib.IfaceEq
import Derived.RowKitTokens
namespace Go.Proofs.YtifdibkpaeocfaaDoor
open Go.RowKit Go.Extern.Stop Go.Stop Go.Extern

def faultsV (no line at_ : Int) : Value := .iface 59 (.agg #[.int .i64 no, .int .i64 line, .int .i64 at_])
theorem isTypeOf (v : Value) (w : World) : (Extern.ReflectliteType.typeOf #[.iface 51 v]).run Tryd.prog w = .ok (.iface 103 (.agg #[.pointer (some ⟨1, 51, none⟩)])) w := by kernel_rfl
theorem isMethodComparable (v : Value) (w : World) : (Go.method 245 103 v "Comparable").run Tryd.prog w = .ok (82, v) w := by kernel_rfl
def comparableX : Array Value → Sem Value := Extern.ReflectliteType.method fun t => do Extern.Rtype.noPackHeld "Comparable" t; pure (.bool (← typeInfo t).comparable)
theorem isComparable (w : World) : (comparableX #[.agg #[.pointer (some ⟨1, 51, none⟩)]]).run Tryd.prog w = .ok (.bool true) w := by kernel_rfl
theorem compErrno : (Tryd.prog.info? 51).map (·.comparable) = some true := by kernel_rfl
theorem noIsN (v : Value) (xT : TypeId) (w : World) : (Instr.typeAssert (.iface 51 v) xT 115 true).run Tryd.prog w = .ok (.tuple #[.nilIface, .bool false]) w := run_typeAssert_lacksB Tryd.underlying115 (by kernel_rfl) (by kernel_rfl) v xT w
theorem noUnwrapN (v : Value) (xT : TypeId) (w : World) : (Instr.typeAssert (.iface 51 v) xT 110 true).run Tryd.prog w = .ok (.tuple #[.nilIface, .bool false]) w := run_typeAssert_lacksB Tryd.underlying110 (by kernel_rfl) (by kernel_rfl) v xT w
theorem noUnwrapsN (v : Value) (xT : TypeId) (w : World) : (Instr.typeAssert (.iface 51 v) xT 112 true).run Tryd.prog w = .ok (.tuple #[.nilIface, .bool false]) w := run_typeAssert_lacksB Tryd.underlying112 (by kernel_rfl) (by kernel_rfl) v xT w
theorem noIsF (v : Value) (xT : TypeId) (w : World) : (Instr.typeAssert (.iface 59 v) xT 115 true).run Tryd.prog w = .ok (.tuple #[.nilIface, .bool false]) w := run_typeAssert_lacksB Tryd.underlying115 (by kernel_rfl) (by kernel_rfl) v xT w
theorem hasUnwrapF (v : Value) (xT : TypeId) (w : World) : (Instr.typeAssert (.iface 59 v) xT 110 true).run Tryd.prog w = .ok (.tuple #[.iface 59 v, .bool true]) w := run_typeAssert_hasB Tryd.underlying110 (by kernel_rfl) v xT w

set_option maxHeartbeats 1000000 in
set_option maxRecDepth 100000 in
theorem Is_errno (k n : Int) (w : World) : Calls Tryd.prog 40 #[.iface 51 (.int .i64 k), .iface 51 (.int .i64 n)] w fun e w' => e = .returned (.bool (k == n)) ∧ w = w' := by
  have h8 := @run_callFunc_extern Tryd.prog 49 _ Extern.ReflectliteType.typeOf Tryd.func49 (by kernel_rfl) (by kernel_rfl) (by kernel_rfl) (by kernel_rfl)
  have h32 := @run_callFunc_extern Tryd.prog 82 _ comparableX Tryd.func82 (by kernel_rfl) (by kernel_rfl) (by kernel_rfl) (by kernel_rfl)
  have tT := isTypeOf
  have cT := isComparable
  have mR := isMethodComparable
  have nE := noIsN
  have uE := noUnwrapN
  have vE := noUnwrapsN
  have heq := fun w => Lib.run_eql_iface_int (P := Tryd.prog) w (k := .i64) k n Tryd.underlying26 compErrno Tryd.underlying51
  by_cases hkn : k = n
  · have hb : (k == n) = true := by simpa using hkn
    rw [hb] at heq ⊢
    have HK := Lib.hid hkn
    clear hkn hb
    go_enter Tryd.func40, Tryd.ntmps40
    go_wp2
    refine wp_loop_rounds 1 ?_
    rw [rounds_succ]
    go_wp2
    go_ret
    exact ⟨rfl, rfl⟩
  · have hb : (k == n) = false := by simpa using hkn
    rw [hb] at heq ⊢
    have HK := Lib.hid hkn
    clear hkn hb
    go_enter Tryd.func40, Tryd.ntmps40
    go_wp2
    refine wp_loop_rounds 1 ?_
    rw [rounds_succ]
    go_wp2
    go_ret
    exact ⟨rfl, rfl⟩

theorem methodUnwrapF (v : Value) (w : World) : (Go.method 245 59 v "Unwrap").run Tryd.prog w = .ok (76, v) w := by kernel_rfl
set_option maxHeartbeats 1000000 in
set_option maxRecDepth 100000 in
theorem Is_fault (no line at_ n : Int) (w : World) : Calls Tryd.prog 40 #[faultsV no line at_, .iface 51 (.int .i64 n)] w fun e w' => e = .returned (.bool (no == n)) ∧ Below w.heap.size w w' := by
  have h8 := @run_callFunc_extern Tryd.prog 49 _ Extern.ReflectliteType.typeOf Tryd.func49 (by kernel_rfl) (by kernel_rfl) (by kernel_rfl) (by kernel_rfl)
  have h32 := @run_callFunc_extern Tryd.prog 82 _ comparableX Tryd.func82 (by kernel_rfl) (by kernel_rfl) (by kernel_rfl) (by kernel_rfl)
  have tT := isTypeOf
  have cT := isComparable
  have mR := isMethodComparable
  have nE := noIsN
  have uE := noUnwrapN
  have vE := noUnwrapsN
  have nF := noIsF
  have uF := hasUnwrapF
  have mU := methodUnwrapF
  have heq := fun w => Lib.run_eql_iface_int (P := Tryd.prog) w (k := .i64) no n Tryd.underlying26 compErrno Tryd.underlying51
  have hty := fun w => run_eql_iface_types (P := Tryd.prog) 59 51 (.agg #[.int .i64 no, .int .i64 line, .int .i64 at_]) (.int .i64 n) Tryd.underlying26 (by decide) w
  unfold faultsV
  by_cases hkn : no = n
  · have hb : (no == n) = true := by simpa using hkn
    rw [hb] at heq ⊢
    have HK := Lib.hid hkn
    clear hkn hb
    go_enter Tryd.func40, Tryd.ntmps40
    go_wp2
    refine wp_loop_rounds 2 ?_
    rw [rounds_succ]
    go_wp2
    rw [rounds_succ]
    go_wp2
    go_ret
    exact ⟨rfl, (Below.refl _ _).alloc (Nat.le_refl _) _⟩
  · have hb : (no == n) = false := by simpa using hkn
    rw [hb] at heq ⊢
    have HK := Lib.hid hkn
    clear hkn hb
    go_enter Tryd.func40, Tryd.ntmps40
    go_wp2
    refine wp_loop_rounds 2 ?_
    rw [rounds_succ]
    go_wp2
    rw [rounds_succ]
    go_wp2
    go_ret
    exact ⟨rfl, (Below.refl _ _).alloc (Nat.le_refl _) _⟩
end Go.Proofs.YtifdibkpaeocfaaDoor
