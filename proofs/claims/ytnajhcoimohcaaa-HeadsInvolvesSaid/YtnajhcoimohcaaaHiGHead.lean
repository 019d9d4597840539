/-
  A region that draws its order: what is left of it only reads, whatever was carried out ahead.
  Conditions: none.
-/
import Derived.Test.YtnajhcoimohcaaaHiGBase
import Derived.Lib.QuietBelow
set_option linter.unusedVariables false
set_option linter.unusedSimpArgs false
namespace Go.Proofs.Ytnajhcoimohcaaa
open Go.RowKit

theorem wpAny_quiet_rest {P : Program} {l : List Oper} {Q : Exit → Act → World → Prop} {fuel : Nat} {listed : Array Bool} {a : Act} {w : World} (k : Nat) (hf : fuel = (l.drop k).length)
    (hB : (Region.noSelect l.toArray && Region.lexFrom .any l.toArray (l.drop k).length k listed) = true)
    (h : wpQuiet P l.toArray (fun w' => ∃ p : Regrown, w' = Sort.grow (redrawn w p.d) p.os) (fun a' => ∀ w', (∃ p : Regrown, w' = Sort.grow (redrawn w p.d) p.os) → Q .normal a' w') (l.drop k) a) :
    wpAny P .any l.toArray Q fuel listed a w := by
  subst hf
  simp only [Bool.and_eq_true] at hB
  refine wpAny_of_quiet (C := fun w' => ∃ p : Regrown, w' = Sort.grow (redrawn w p.d) p.os) (Q := fun a' => ∀ w', (∃ p : Regrown, w' = Sort.grow (redrawn w p.d) p.os) → Q .normal a' w') (fun _ w' hw' h => h w' hw') _ _ _ _ ⟨⟨w.drawn, #[]⟩, by rw [Sort.grow_empty]; rfl⟩ ?_
  exact wpAnyQ_lex (md := .any) hB.1 (l.drop k) k listed a (fun j => by rw [List.getElem?_drop]; simp) hB.2 h
end Go.Proofs.Ytnajhcoimohcaaa
