/- errors.Is by its contracts, at the errors of package api: a number, a fault. The walk goes through Go's own text of errors.Is and errors.is. -/
import Derived.Test.YtifdibkpaeocfaaUnpack
import Derived.LaidEql
import Derived.Stop.Asserts
import Derived.Lib.IfaceEq
import Derived.RowKitTokens
namespace Go.Proofs.Ytifdibkpaeocfaa
open Go.RowKit Go.Extern.Stop Go.Stop Go.Extern

def faultsV (no line at_ : Int) : Value := .iface 65 (.agg #[.int .i64 no, .int .i64 line, .int .i64 at_])
theorem isTypeOf (v : Value) (w : World) : (Extern.ReflectliteType.typeOf #[.iface 58 v]).run Try.prog w = .ok (.iface 83 (.agg #[.pointer (some ⟨0, 58, none⟩)])) w := by kernel_rfl
theorem isMethodComparable (v : Value) (w : World) : (Go.method 223 83 v "Comparable").run Try.prog w = .ok (62, v) w := by kernel_rfl
def comparableX : Array Value → Sem Value := Extern.ReflectliteType.method fun t => do Extern.Rtype.noPackHeld "Comparable" t; pure (.bool (← typeInfo t).comparable)
theorem isComparable (w : World) : (comparableX #[.agg #[.pointer (some ⟨0, 58, none⟩)]]).run Try.prog w = .ok (.bool true) w := by kernel_rfl
theorem compErrno : (Try.prog.info? 58).map (·.comparable) = some true := by kernel_rfl
theorem noIsN (v : Value) (xT : TypeId) (w : World) : (Instr.typeAssert (.iface 58 v) xT 85 true).run Try.prog w = .ok (.tuple #[.nilIface, .bool false]) w := run_typeAssert_lacksB Try.underlying85 (by kernel_rfl) (by kernel_rfl) v xT w
theorem noUnwrapN (v : Value) (xT : TypeId) (w : World) : (Instr.typeAssert (.iface 58 v) xT 88 true).run Try.prog w = .ok (.tuple #[.nilIface, .bool false]) w := run_typeAssert_lacksB Try.underlying88 (by kernel_rfl) (by kernel_rfl) v xT w
theorem noUnwrapsN (v : Value) (xT : TypeId) (w : World) : (Instr.typeAssert (.iface 58 v) xT 90 true).run Try.prog w = .ok (.tuple #[.nilIface, .bool false]) w := run_typeAssert_lacksB Try.underlying90 (by kernel_rfl) (by kernel_rfl) v xT w
theorem noIsF (v : Value) (xT : TypeId) (w : World) : (Instr.typeAssert (.iface 65 v) xT 85 true).run Try.prog w = .ok (.tuple #[.nilIface, .bool false]) w := run_typeAssert_lacksB Try.underlying85 (by kernel_rfl) (by kernel_rfl) v xT w
theorem hasUnwrapF (v : Value) (xT : TypeId) (w : World) : (Instr.typeAssert (.iface 65 v) xT 88 true).run Try.prog w = .ok (.tuple #[.iface 65 v, .bool true]) w := run_typeAssert_hasB Try.underlying88 (by kernel_rfl) v xT w

set_option maxHeartbeats 1000000 in
set_option maxRecDepth 100000 in
theorem Is_errno (k n : Int) (w : World) : Calls Try.prog 32 #[.iface 58 (.int .i64 k), .iface 58 (.int .i64 n)] w fun e w' => e = .returned (.bool (k == n)) ∧ w = w' := by
  have h8 := @run_callFunc_extern Try.prog 36 _ Extern.ReflectliteType.typeOf Try.func36 (by kernel_rfl) (by kernel_rfl) (by kernel_rfl) (by kernel_rfl)
  have h32 := @run_callFunc_extern Try.prog 62 _ comparableX Try.func62 (by kernel_rfl) (by kernel_rfl) (by kernel_rfl) (by kernel_rfl)
  have tT := isTypeOf
  have cT := isComparable
  have mR := isMethodComparable
  have nE := noIsN
  have uE := noUnwrapN
  have vE := noUnwrapsN
  have heq := fun w => Lib.run_eql_iface_int (P := Try.prog) w (k := .i64) k n Try.underlying31 compErrno Try.underlying58
  by_cases hkn : k = n
  · have hb : (k == n) = true := by simpa using hkn
    rw [hb] at heq ⊢
    have HK := Lib.hid hkn
    clear hkn hb
    go_enter Try.func32, Try.ntmps32
    go_wp2
    refine wp_loop_rounds 1 ?_
    rw [rounds_succ]
    go_wp2
    go_ret
    exact ⟨rfl, rfl⟩
  · have hb : (k == n) = false := by simpa using hkn
    rw [hb] at heq ⊢
    have HK := Lib.hid hkn
    clear hkn hb
    go_enter Try.func32, Try.ntmps32
    go_wp2
    refine wp_loop_rounds 1 ?_
    rw [rounds_succ]
    go_wp2
    go_ret
    exact ⟨rfl, rfl⟩

theorem methodUnwrapF (v : Value) (w : World) : (Go.method 223 65 v "Unwrap").run Try.prog w = .ok (58, v) w := by kernel_rfl
set_option maxHeartbeats 1000000 in
set_option maxRecDepth 100000 in
theorem Is_fault (no line at_ n : Int) (w : World) : Calls Try.prog 32 #[faultsV no line at_, .iface 58 (.int .i64 n)] w fun e w' => e = .returned (.bool (no == n)) ∧ Below w.heap.size w w' := by
  have h8 := @run_callFunc_extern Try.prog 36 _ Extern.ReflectliteType.typeOf Try.func36 (by kernel_rfl) (by kernel_rfl) (by kernel_rfl) (by kernel_rfl)
  have h32 := @run_callFunc_extern Try.prog 62 _ comparableX Try.func62 (by kernel_rfl) (by kernel_rfl) (by kernel_rfl) (by kernel_rfl)
  have tT := isTypeOf
  have cT := isComparable
  have mR := isMethodComparable
  have nE := noIsN
  have uE := noUnwrapN
  have vE := noUnwrapsN
  have nF := noIsF
  have uF := hasUnwrapF
  have mU := methodUnwrapF
  have heq := fun w => Lib.run_eql_iface_int (P := Try.prog) w (k := .i64) no n Try.underlying31 compErrno Try.underlying58
  have hty := fun w => run_eql_iface_types (P := Try.prog) 65 58 (.agg #[.int .i64 no, .int .i64 line, .int .i64 at_]) (.int .i64 n) Try.underlying31 (by decide) w
  unfold faultsV
  by_cases hkn : no = n
  · have hb : (no == n) = true := by simpa using hkn
    rw [hb] at heq ⊢
    have HK := Lib.hid hkn
    clear hkn hb
    go_enter Try.func32, Try.ntmps32
    go_wp2
    refine wp_loop_rounds 2 ?_
    rw [rounds_succ]
    go_wp2
    rw [rounds_succ]
    go_wp2
    go_ret
    exact ⟨rfl, (Below.refl _ _).alloc (Nat.le_refl _) _⟩
  · have hb : (no == n) = false := by simpa using hkn
    rw [hb] at heq ⊢
    have HK := Lib.hid hkn
    clear hkn hb
    go_enter Try.func32, Try.ntmps32
    go_wp2
    refine wp_loop_rounds 2 ?_
    rw [rounds_succ]
    go_wp2
    rw [rounds_succ]
    go_wp2
    go_ret
    exact ⟨rfl, (Below.refl _ _).alloc (Nat.le_refl _) _⟩
end Go.Proofs.Ytifdibkpaeocfaa
