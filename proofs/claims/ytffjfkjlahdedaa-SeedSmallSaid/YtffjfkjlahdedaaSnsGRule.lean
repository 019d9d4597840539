/-
  The library's IndexFunc at rules and at nodes, whatever test; the place of a rule's name, both ways.
  Conditions: none.
-/
import Derived.Test.YtffjfkjlahdedaaSnsGBase
import Derived.Shelf.Abstract
set_option linter.unusedVariables false
set_option linter.unusedSimpArgs false
namespace Go.Proofs.Ytffjfkjlahdedaa
open Go.RowKit Go.MapKept

theorem findIdx_at {α : Type} {p : α → Bool} {l : List α} {k : Nat} (hk : k < l.length) (hp : p l[k] = true) (hb : ∀ j (h : j < k), p (l[j]'(by omega)) = false) : l.findIdx p = k := by
  rw [List.findIdx_eq (by omega)]
  exact ⟨hp, fun j hj => hb j hj⟩
theorem findIdx_none {α : Type} {p : α → Bool} {l : List α} (hb : ∀ j (h : j < l.length), p l[j] = false) : l.findIdx p = l.length := by
  rw [List.findIdx_eq_length]
  intro x hx
  obtain ⟨j, hj, rfl⟩ := List.mem_iff_getElem.1 hx
  exact hb j hj
/-- The first place, or -1. -/
def idxI {α : Type} (l : List α) (p : α → Bool) : Int := if l.findIdx p < l.length then (l.findIdx p : Int) else -1

end Go.Proofs.Ytffjfkjlahdedaa
set_option linter.unusedVariables false
set_option linter.unusedSimpArgs false
namespace Go.Proofs.Ytffjfkjlahdedaa
open Go.RowKit Go.MapKept Go.Shelf

theorem ruleI_idx (rs : List Rl) (s : ByteArray) : ruleI rs s = idxI rs fun r => r.name.toList == s.toList := rfl

end Go.Proofs.Ytffjfkjlahdedaa
