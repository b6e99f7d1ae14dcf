/- errors.Is by its contracts, at the errors of package api: a number, a fault. The walk goes through Go's own text of errors.Is and errors.is. -/
import Derived.Test.YtfgpigblnkanpaaGreatB
import Derived.Stop.IfaceNil
import Derived.WalkLawsBesides
import Derived.Deep.DeepCutAuto
import Derived.LaidEql
import Derived.Stop.Asserts
import Derived.Lib.IfaceEq
import Derived.RowKitTokens
namespace Go.Proofs.YtfgpigblnkanpaaGreat
open Go.RowKit Go.Extern.Stop Go.Stop Go.Extern

theorem isTypeOf (v : Value) (w : World) : (Extern.ReflectliteType.typeOf #[.iface 52 v]).run Tryz.prog w = .ok (.iface 82 (.agg #[.pointer (some ⟨1, 52, none⟩)])) w := by kernel_rfl
theorem isMethodComparable (v : Value) (w : World) : (Go.method 272 82 v "Comparable").run Tryz.prog w = .ok (124, v) w := by kernel_rfl
def comparableX : Array Value → Sem Value := Extern.ReflectliteType.method fun t => do Extern.Rtype.noPackHeld "Comparable" t; pure (.bool (← typeInfo t).comparable)
theorem isComparable (w : World) : (comparableX #[.agg #[.pointer (some ⟨1, 52, none⟩)]]).run Tryz.prog w = .ok (.bool true) w := by kernel_rfl
theorem compErrno : (Tryz.prog.info? 52).map (·.comparable) = some true := by kernel_rfl
theorem noIsN (v : Value) (xT : TypeId) (w : World) : (Instr.typeAssert (.iface 52 v) xT 84 true).run Tryz.prog w = .ok (.tuple #[.nilIface, .bool false]) w := run_typeAssert_lacksB Tryz.underlying84 (by kernel_rfl) (by kernel_rfl) v xT w
theorem noUnwrapN (v : Value) (xT : TypeId) (w : World) : (Instr.typeAssert (.iface 52 v) xT 87 true).run Tryz.prog w = .ok (.tuple #[.nilIface, .bool false]) w := run_typeAssert_lacksB Tryz.underlying87 (by kernel_rfl) (by kernel_rfl) v xT w
theorem noUnwrapsN (v : Value) (xT : TypeId) (w : World) : (Instr.typeAssert (.iface 52 v) xT 88 true).run Tryz.prog w = .ok (.tuple #[.nilIface, .bool false]) w := run_typeAssert_lacksB Tryz.underlying88 (by kernel_rfl) (by kernel_rfl) v xT w

set_option maxHeartbeats 1000000 in
set_option maxRecDepth 100000 in
theorem Is_errno (k n : Int) (w : World) : Calls Tryz.prog 19 #[.iface 52 (.int .i64 k), .iface 52 (.int .i64 n)] w fun e w' => e = .returned (.bool (k == n)) ∧ w = w' := by
  have h8 := @run_callFunc_extern Tryz.prog 35 _ Extern.ReflectliteType.typeOf Tryz.func35 (by kernel_rfl) (by kernel_rfl) (by kernel_rfl) (by kernel_rfl)
  have h32 := @run_callFunc_extern Tryz.prog 124 _ comparableX Tryz.func124 (by kernel_rfl) (by kernel_rfl) (by kernel_rfl) (by kernel_rfl)
  have tT := isTypeOf
  have cT := isComparable
  have mR := isMethodComparable
  have nE := noIsN
  have uE := noUnwrapN
  have vE := noUnwrapsN
  have heq := fun w => Lib.run_eql_iface_int (P := Tryz.prog) w (k := .i64) k n Tryz.underlying30 compErrno Tryz.underlying52
  by_cases hkn : k = n
  · have hb : (k == n) = true := by simpa using hkn
    rw [hb] at heq ⊢
    have HK := Lib.hid hkn
    clear hkn hb
    go_enter Tryz.func19, Tryz.ntmps19
    go_wp2
    refine wp_loop_rounds 1 ?_
    rw [rounds_succ]
    go_wp2
    go_ret
    exact ⟨rfl, rfl⟩
  · have hb : (k == n) = false := by simpa using hkn
    rw [hb] at heq ⊢
    have HK := Lib.hid hkn
    clear hkn hb
    go_enter Tryz.func19, Tryz.ntmps19
    go_wp2
    refine wp_loop_rounds 1 ?_
    rw [rounds_succ]
    go_wp2
    go_ret
    exact ⟨rfl, rfl⟩

end Go.Proofs.YtfgpigblnkanpaaGreat
