/-
  Two rules compared.
  Conditions: none.
-/
import Derived.Test.YtffjfkjlahdedaaSdoGCopy
import Derived.Laws.StructEq
set_option linter.unusedVariables false
set_option linter.unusedSimpArgs false
namespace Go.Proofs.Ytffjfkjlahdedaa
open Go.RowKit Go.MapKept Go.Shelf
end Go.Proofs.Ytffjfkjlahdedaa
set_option linter.unusedVariables false
set_option linter.unusedSimpArgs false
namespace Go.Proofs.Ytffjfkjlahdedaa
open Go.RowKit Go.MapKept Go.Shelf

/-- Two nodes, field by field. -/
def sameN (x y : Nd) : Bool := decide (x.k = y.k ∧ (x.c0 = y.c0 ∧ x.c1 = y.c1 ∧ x.c2 = y.c2 ∧ x.c3 = y.c3) ∧ x.s.toList = y.s.toList ∧ x.r = y.r ∧ x.l = y.l ∧ x.kids = y.kids)
theorem sameN_refl (x : Nd) : sameN x x = true := by simp [sameN]

structure SameAt (w : World) (B : Nat) (vx vy : Array Value) (t : TypeId) (wr : World) : Prop where
  bx : wr.heap[B]? = some (.cells vx t (0, 0))
  bY : wr.heap[B + 1]? = some (.cells vy t (0, 0))
  ch : Chg [] w wr
theorem SameAt.new (w : World) (vx vy : Array Value) (t : TypeId) : SameAt w w.heap.size vx vy t ((w.alloc (.cells vx t)).alloc (.cells vy t)) :=
  ⟨heap_alloc_lt (heap_alloc_same _ _) _, by have := heap_alloc_same (w.alloc (.cells vx t)) (.cells vy t); rw [World.size_alloc] at this; exact this, ((Chg.refl _ _).alloc _).alloc _⟩
theorem SameAt.keep {w wr w' : World} {B : Nat} {vx vy : Array Value} {t : TypeId} (h : SameAt w B vx vy t wr) (hc : Chg [] wr w') : SameAt w B vx vy t w' := ⟨hc.heap h.bx (by simp), hc.heap h.bY (by simp), h.ch.tr hc⟩

end Go.Proofs.Ytffjfkjlahdedaa
