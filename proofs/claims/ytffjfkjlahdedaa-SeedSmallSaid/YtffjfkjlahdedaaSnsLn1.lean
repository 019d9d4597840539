/-
  What is lent: numbers and rules, with marks behind their ends; that they are kept.
  Conditions: the lists read as data; they are not too long.
-/
import Derived.Test.YtffjfkjlahdedaaSnsGApp
import Derived.Test.YtffjfkjlahdedaaSnsGAny
set_option linter.unusedVariables false
set_option linter.unusedSimpArgs false
set_option linter.unnecessarySimpa false
namespace Go.Proofs.Ytffjfkjlahdedaa
open Go.RowKit Go.MapKept Go.Shelf

def markZ (k i : Int) : Int := 1000003 * (k + 7) + i
def marksI (m : Nat) : List Int := (List.range m).map fun (i : Nat) => markZ 1 i
theorem marksI_succ (m : Nat) : marksI (m + 1) = marksI m ++ [markZ 1 m] := by simp [marksI, List.range_succ]
theorem marksI_len (m : Nat) : (marksI m).length = m := by simp [marksI]

set_option maxRecDepth 100000 in
set_option maxHeartbeats 1000000 in
theorem mark_any (w : World) (k i : Int) (h1 : 0 ≤ k) (h2 : k ≤ 1000000) (h3 : 0 ≤ i) (h4 : i ≤ 1099511627776) :
    Calls Try.prog 48 #[.int .i64 k, .int .i64 i] w fun e w' => e = .returned (.int .i64 (markZ k i)) ∧ Chg [] w w' := by
  go_enter Try.func48, Try.ntmps48
  go_wp2_with fail
  go_ret
  refine ⟨ret_int ?_, Chg.refl _ _⟩
  unfold markZ
  go_num

/-- Numbers, with marks behind their end. -/
def LentI (w : World) (zs : List Int) (e : Ending) (w' : World) : Prop :=
  ∃ b c, e = .returned (.slice (some ⟨b, 0, none⟩) zs.length c) ∧ w'.ownsRow w.heap.size 3 1 (.slice (some ⟨b, 0, none⟩) (zs.length + 12) c) (zs.length + 12) ((zs ++ marksI 12).map (Value.int .i64)) ∧ Chg [] w w'

end Go.Proofs.Ytffjfkjlahdedaa
