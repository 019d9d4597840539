/-
  left.of: a right grammar at work.
  Conditions: the grammar reads as data, within the reach.
-/
import Derived.Test.YtplpboknmhgpiaaCPtLf0
import Derived.Test.YtplpboknmhgpiaaCPtGRnd
import Derived.Test.YtplpboknmhgpiaaCPtGSeq
import Derived.Test.YtplpboknmhgpiaaCPtNuC
import Derived.Test.YtplpboknmhgpiaaCPtGBool
import Derived.Test.YtplpboknmhgpiaaCPtG06T
set_option linter.unusedVariables false
set_option linter.unusedSimpArgs false
set_option linter.unnecessarySimpa false
namespace Go.Proofs.Ytplpboknmhgpiaa
open Go.RowKit Go.MapKept Go.Shelf

section
attribute [local go_sem] Oper.semAt_some
end
end Go.Proofs.Ytplpboknmhgpiaa
set_option linter.unusedVariables false
set_option linter.unusedSimpArgs false
set_option linter.unnecessarySimpa false
namespace Go.Proofs.Ytplpboknmhgpiaa
open Go.RowKit Go.MapKept Go.Shelf

/-- What lay below n₀ lies as it lay, and each block of a node. -/
structure KeepL (n₀ : Nat) (A B : World) : Prop where
  size : A.heap.size ≤ B.heap.size
  old : ∀ k o, (k < n₀ ∨ ∃ cs, o = .cells cs 131 (0, 0)) → A.heap[k]? = some o → B.heap[k]? = some o
theorem KeepL.refl (n₀ : Nat) (A : World) : KeepL n₀ A A := ⟨Nat.le_refl _, fun _ _ _ h => h⟩
theorem KeepL.trans {n₀ : Nat} {A B C : World} (h : KeepL n₀ A B) (k : KeepL n₀ B C) : KeepL n₀ A C := ⟨Nat.le_trans h.size k.size, fun j o hj ho => k.old j o hj (h.old j o hj ho)⟩
theorem KeepL.of_chg {n₀ : Nat} {S : List Nat} {A B : World} (h : Chg S A B) (hS : ∀ k ∈ S, n₀ ≤ k ∧ ∀ cs, A.heap[k]? ≠ some (.cells cs 131 (0, 0))) : KeepL n₀ A B :=
  ⟨h.size, fun k o hk ho => h.heap ho (fun hm => by
    obtain ⟨h1, h2⟩ := hS k hm
    rcases hk with h | ⟨cs, rfl⟩
    · omega
    · exact h2 cs ho)⟩
theorem KeepL.of_chg0 {n₀ : Nat} {A B : World} (h : Chg [] A B) : KeepL n₀ A B := .of_chg h (by simp)
theorem KeepL.of_turn {n₀ B' : Nat} {A B : World} (h : Turn B' A B) (hn : n₀ ≤ B') : KeepL n₀ A B := by
  refine ⟨h.kp.1, fun k o hk ho => ?_⟩
  rcases hk with hk | ⟨cs, rfl⟩
  · obtain ⟨l, hl, hc⟩ := h.chg
    exact hc.heap ho (by simp; omega)
  · exact h.heap ho rfl
theorem KeepL.kp {w W : World} (h : KeepL w.heap.size w W) : Kp w W := by
  refine ⟨h.size, fun p v hc => ?_⟩
  obtain ⟨o, ho, _⟩ := cells_of_cell hc
  exact (World.cell?_of_block ((h.old _ _ (.inl (World.block_lt_of_cell? _ _ hc)) ho).trans ho.symm)).trans hc
section
attribute [local go_sem] Oper.semAt_some
end
end Go.Proofs.Ytplpboknmhgpiaa
set_option linter.unusedVariables false
set_option linter.unusedSimpArgs false
set_option linter.unnecessarySimpa false
namespace Go.Proofs.Ytplpboknmhgpiaa
open Go.RowKit Go.MapKept Go.Shelf

/-! ### The rules that are called -/
section
attribute [local go_sem] Oper.semAt_some
end
end Go.Proofs.Ytplpboknmhgpiaa
set_option linter.unusedVariables false
set_option linter.unusedSimpArgs false
set_option linter.unnecessarySimpa false
namespace Go.Proofs.Ytplpboknmhgpiaa
open Go.RowKit Go.MapKept Go.Shelf

/-! ### Rows of rows of numbers -/
theorem Try.infoInts : (Try.prog.info? 26).map (fun i => (i.zero, i.size, i.bytes)) = some (some (.slice none 0 0), 1, 24) := by kernel_rfl
abbrev Is := Option Addr × Nat × List Int
def Is.cell (p : Is) : Value := .slice p.1 p.2.2.length p.2.1
def Is.own (p : Is) : Option Nat := p.cell.ownBlock
structure OwnIs (B : Nat) (w : World) (a : Option Addr) (c : Nat) (VS : List Is) : Prop where
  row : w.ownsRow B 26 1 (.slice a VS.length c) VS.length (VS.map Is.cell)
  each : ∀ p ∈ VS, FreshInts B w p.1 p.2.1 p.2.2
  apart : VS.Pairwise fun p q => ∀ k, p.own = some k → q.own ≠ some k
theorem OwnIs.nil (B : Nat) (w : World) : OwnIs B w none 0 [] := ⟨World.ownsRow_nil _ _ _ _, by simp, List.Pairwise.nil⟩
theorem OwnIs.chg0 {B : Nat} {w w' : World} {a : Option Addr} {c : Nat} {VS : List Is} (h : OwnIs B w a c VS) (hc : Chg [] w w') : OwnIs B w' a c VS := ⟨hc.row h.row (fun _ _ => by simp), fun p hp => hc.row (h.each p hp) (fun _ _ => by simp), h.apart⟩
theorem OwnIs.base {B B' : Nat} {w : World} {a : Option Addr} {c : Nat} {VS : List Is} (h : OwnIs B w a c VS) (hb : B' ≤ B) : OwnIs B' w a c VS := ⟨row_base h.row hb, fun p hp => row_base (h.each p hp) hb, h.apart⟩
/-- One row more, made behind all others. -/
theorem OwnIs.snoc {B B' : Nat} {w w1 : World} {a a' : Option Addr} {c c' : Nat} {VS : List Is} {p : Is} (h : OwnIs B w a c VS) (hB : B ≤ B') (hp : FreshInts B' w p.1 p.2.1 p.2.2) (hold : ∀ q ∈ VS, ∀ k, q.own = some k → k < B')
    (hr : w1.ownsRow B 26 1 (.slice a' (VS.length + 1) c') (VS.length + 1) (VS.map Is.cell ++ [p.cell])) (hg : w.grownBy w1 (Value.slice a VS.length c).ownBlock) : OwnIs B w1 a' c' (VS ++ [p]) := by
  have hc : Chg (Value.slice a VS.length c).ownBlock.toList w w1 := (Chg.refl _ w).grown hg (fun k hk => .inl (by rw [hk]; simp))
  have hS : ∀ k ∈ (Value.slice a VS.length c).ownBlock.toList, NotRow w 3 k := by
    intro k hk
    simp only [Option.mem_toList] at hk
    exact row_notrow h.row hk (by decide)
  refine ⟨by rw [List.length_append, List.map_append]; exact hr, fun q hq => ?_, ?_⟩
  · rcases List.mem_append.1 hq with hq | hq
    · exact hc.row (h.each q hq) (fun k hk hm => hS k hm _ _ _ _ _ (h.each q hq) hk)
    · simp only [List.mem_singleton] at hq
      subst hq
      exact hc.row (row_base hp hB) (fun k hk hm => hS k hm _ _ _ _ _ hp hk)
  · rw [List.pairwise_append]
    refine ⟨h.apart, List.pairwise_singleton _ _, fun q hq r hr k hk hk2 => ?_⟩
    simp only [List.mem_singleton] at hr
    subst hr
    have h1 := hold q hq k hk
    have h2 := (row_beyond hp hk2).1
    omega
theorem OwnIs.lt {B : Nat} {w : World} {a : Option Addr} {c : Nat} {VS : List Is} (h : OwnIs B w a c VS) : ∀ q ∈ VS, ∀ k, q.own = some k → k < w.heap.size := fun q hq k hk => (row_beyond (h.each q hq) hk).2.1
/-- Reading. -/
theorem OwnIs.at {B : Nat} {w : World} {a : Option Addr} {c : Nat} {VS : List Is} (h : OwnIs B w a c VS) {i : Nat} (hi : i < VS.length) : ∃ b, a = some ⟨b, 0, none⟩ ∧ B ≤ b ∧ w.cell? ⟨b, i, none⟩ = some VS[i].cell := by
  rcases h.row.2 with ⟨h0, h1⟩ | ⟨g, cap, cur, h0, hb, hg, hn, hc, hs, ht⟩
  · omega
  · cases h0
    refine ⟨g, rfl, hb, ?_⟩
    rw [cell_of_cells hg]
    have h1 : (VS.map Is.cell)[i]? = some VS[i].cell := by simp [hi]
    rw [← ht, List.getElem?_take] at h1
    split at h1
    · simpa using h1
    · cases h1
theorem OwnIs.ints {B : Nat} {w : World} {a : Option Addr} {c : Nat} {VS : List Is} (h : OwnIs B w a c VS) {i : Nat} (hi : i < VS.length) : Ints w VS[i].1 VS[i].2.2 := (ownInts_read (h.each _ (List.getElem_mem hi)).own).1
def NewRowsI (w : World) (zss : List (List Int)) (e : Ending) (w' : World) : Prop := ∃ a c VS, e = .returned (.slice a zss.length c) ∧ VS.map (·.2.2) = zss ∧ OwnIs w.heap.size w' a c VS ∧ Chg [] w w'

end Go.Proofs.Ytplpboknmhgpiaa
