/-
  Two rules compared.
  Conditions: none.
-/
import Derived.Test.YtibgfgfmljhimaaGSame
import Derived.Laws.StructEq
set_option linter.unusedVariables false
set_option linter.unusedSimpArgs false
namespace Go.Proofs.Ytibgfgfmljhimaa
open Go.RowKit Go.MapKept Go.Shelf
theorem Try.ruleFields : Try.prog.underlying 46 = some (.struct (Try.prog.fieldsOf 46)) := by kernel_rfl
theorem Try.ruleStood : Try.prog.stoodInHeld 46 = false := by kernel_rfl
@[go_sem] theorem Try.ruleGuard (op : BinOp) (x y : Operand) (xs ys : Array Value) (w : World) : (eqGuard op 46 x y (.agg xs) (.agg ys)).run Try.prog w = .ok () w := run_eqGuard_agg w op _ x y xs ys (by kernel_rfl)
@[go_sem] theorem rule_eq (a a' : ByteArray) (b b' : Int) (w : World) :
    (Op.equalIn 10000 46 (.agg #[.string a, .int .i64 b]) (.agg #[.string a', .int .i64 b'])).run Try.prog w = .ok (decide (a.toList = a'.toList ∧ b = b')) w := by
  rw [show (10000 : Nat) = 9999 + 1 from rfl, run_equalIn_struct w 9999 _ _ _ Try.ruleFields Try.ruleStood]
  simp only [Program.fieldsOf, Try.underlying46]
  have e1 := fun (w : World) => run_equalIn_string (P := Try.prog) w 9998 9 a a' Try.underlying9
  have e2 := fun (w : World) => run_equalIn_int (P := Try.prog) w 9998 3 .i64 .i64 b b' Try.underlying3
  simp only [Op.eqFields]
  simp [part, isAgg, run_underlying Try.underlying9, run_underlying Try.underlying3, e1, e2]
  by_cases h1 : a.toList = a'.toList <;> by_cases h2 : b = b' <;> simp [h1, h2, isAgg, run_underlying Try.underlying9, run_underlying Try.underlying3, e1, e2]
end Go.Proofs.Ytibgfgfmljhimaa
