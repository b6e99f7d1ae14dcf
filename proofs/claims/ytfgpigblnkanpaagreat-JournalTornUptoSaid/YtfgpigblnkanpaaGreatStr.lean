/- Strings in a walk: a sum, a beginning, a byte as a text. -/
import Derived.Test.YtfgpigblnkanpaaGreatPk
import Derived.Test.YtfgpigblnkanpaaGreatProg
namespace Go.Proofs.YtfgpigblnkanpaaGreat
open Go.RowKit

theorem add_run (a b : List UInt8) (h : a.length + b.length ≤ 9223372036854775807) (w1 : World) : (Op.stringOp .add (str a) (str b)).run Tryz.prog w1 = .ok (.string (str (a ++ b))) w1 := by
  have e1 := str_size a
  have e2 := str_size b
  have e3 : ¬ (((str a).size + (str b).size : Nat) : Int) > IntKind.i64.max := by rw [e1, e2]; show ¬ _ > (9223372036854775807 : Int); omega
  simp only [Op.stringOp]
  rw [if_neg e3, str_append]
  rfl
theorem slice_pre (l : List UInt8) (p : Nat) (h : p ≤ l.length) (w' : World) : (Instr.slice 9 (.string (str l)) none (some (.int .i64 (p : Int))) none).run Tryz.prog w' = .ok (strV (l.take p)) w' := by
  have e := str_size l
  have hx : (str l).extract 0 p = str (l.take p) := by rw [str_extract]; simp
  have h1 : (p : Int) ≤ l.length := by omega
  have h0 : (0 : Int) ≤ p := by omega
  go_simp
theorem conv_one (X : UInt8) (w1 : World) : (convert 60 9 (.slice (some ⟨w1.heap.size, 0, none⟩) 1 1)).run Tryz.prog (w1.alloc (.cells #[.int .u8 X.toNat] 5)) = .ok (.string (str [X])) (w1.alloc (.cells #[.int .u8 X.toNat] 5)) := conv_bytes (Blk.new w1 [.int .u8 (X.toNat : Int)] 5) Tryz.underlying60 Tryz.underlying5 Tryz.underlying9 [X] [] _ _ rfl rfl
theorem conv_one' (X : UInt8) (w1 : World) : (convert 60 9 (.slice (some ⟨w1.heap.size, 0, none⟩) 1 1)).run Tryz.prog (w1.alloc (.cells #[.int .u8 X.toNat] 5)).drew = .ok (.string (str [X])) (w1.alloc (.cells #[.int .u8 X.toNat] 5)).drew := conv_bytes (Blk.new w1 [.int .u8 (X.toNat : Int)] 5).drew Tryz.underlying60 Tryz.underlying5 Tryz.underlying9 [X] [] _ _ rfl rfl
end Go.Proofs.YtfgpigblnkanpaaGreat
