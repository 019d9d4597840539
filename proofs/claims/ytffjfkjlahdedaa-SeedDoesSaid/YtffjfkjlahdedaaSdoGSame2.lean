/-
  The reference's Same: two grammars.
  Conditions: both read as data.
-/
import Derived.Test.YtffjfkjlahdedaaSdoGSame
set_option linter.unusedVariables false
set_option linter.unusedSimpArgs false
namespace Go.Proofs.Ytffjfkjlahdedaa
open Go.RowKit Go.MapKept Go.Shelf

def sameR (r q : Rl) : Bool := decide (r.name.toList = q.name.toList ∧ r.body = q.body)
def sameRs : List Rl → List Rl → Bool
  | [], [] => true
  | r :: rs, q :: qs => sameR r q && sameRs rs qs
  | _, _ => false
def sameNs : List Nd → List Nd → Bool
  | [], [] => true
  | x :: xs, y :: ys => sameN x y && sameNs xs ys
  | _, _ => false
def sameG (g h : Gr) : Bool := sameRs g.rules h.rules && sameNs g.nodes h.nodes
theorem sameRs_refl (l : List Rl) : sameRs l l = true := by
  induction l with
  | nil => rfl
  | cons r rs ih => simp [sameRs, sameR, ih]
theorem sameNs_refl (l : List Nd) : sameNs l l = true := by
  induction l with
  | nil => rfl
  | cons r rs ih => simp [sameNs, sameN_refl, ih]
theorem sameG_refl (g : Gr) : sameG g g = true := by simp [sameG, sameRs_refl, sameNs_refl]
theorem sameRs_iff (l m : List Rl) : sameRs l m = true ↔ l.length = m.length ∧ ∀ i (h : i < l.length) (h' : i < m.length), sameR l[i] m[i] = true := by
  induction l generalizing m with
  | nil => cases m with
    | nil => simp [sameRs]
    | cons _ _ => simp [sameRs]
  | cons r rs ih => cases m with
    | nil => simp [sameRs]
    | cons q qs =>
      simp only [sameRs, Bool.and_eq_true, ih, List.length_cons, Nat.add_right_cancel_iff]
      constructor
      · rintro ⟨h1, h2, h3⟩
        refine ⟨h2, fun i hi hi' => ?_⟩
        cases i with
        | zero => exact h1
        | succ i => exact h3 i (by omega) (by omega)
      · rintro ⟨h1, h2⟩
        exact ⟨h2 0 (by omega) (by omega), h1, fun i hi hi' => h2 (i + 1) (by omega) (by omega)⟩
theorem sameNs_iff (l m : List Nd) : sameNs l m = true ↔ l.length = m.length ∧ ∀ i (h : i < l.length) (h' : i < m.length), sameN l[i] m[i] = true := by
  induction l generalizing m with
  | nil => cases m with
    | nil => simp [sameNs]
    | cons _ _ => simp [sameNs]
  | cons r rs ih => cases m with
    | nil => simp [sameNs]
    | cons q qs =>
      simp only [sameNs, Bool.and_eq_true, ih, List.length_cons, Nat.add_right_cancel_iff]
      constructor
      · rintro ⟨h1, h2, h3⟩
        refine ⟨h2, fun i hi hi' => ?_⟩
        cases i with
        | zero => exact h1
        | succ i => exact h3 i (by omega) (by omega)
      · rintro ⟨h1, h2⟩
        exact ⟨h2 0 (by omega) (by omega), h1, fun i hi hi' => h2 (i + 1) (by omega) (by omega)⟩
theorem sameG_iff (g h : Gr) : sameG g h = true ↔ (g.rules.length = h.rules.length ∧ ∀ i (h1 : i < g.rules.length) (h2 : i < h.rules.length), sameR g.rules[i] h.rules[i] = true) ∧ (g.nodes.length = h.nodes.length ∧ ∀ i (h1 : i < g.nodes.length) (h2 : i < h.nodes.length), sameN g.nodes[i] h.nodes[i] = true) := by
  rw [sameG, Bool.and_eq_true, sameRs_iff, sameNs_iff]

end Go.Proofs.Ytffjfkjlahdedaa
