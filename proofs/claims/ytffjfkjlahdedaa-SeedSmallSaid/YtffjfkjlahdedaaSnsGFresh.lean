/-
  The iterator over copies of nodes: each round is handed the next node, its kids in memory of their own.
  Conditions: the nodes read as data and are small; the rounds keep what lay ahead.
-/
import Derived.Test.YtffjfkjlahdedaaSnsGClone
import Derived.Test.YtffjfkjlahdedaaSnsGSeq
import Derived.Shelf.Abstract
import Derived.Shelf.RegionOpen
import Derived.WalkKit
import Derived.OwnWalkIn
import Derived.TacticsInMore
import Derived.LoopNIn
import Derived.LoopIn
import Derived.Sort.LoopGhostIn
set_option linter.unusedVariables false
set_option linter.unusedSimpArgs false
namespace Go.Proofs.Ytffjfkjlahdedaa
open Go.RowKit Go.MapKept Go.Shelf
attribute [local go_sem] Oper.semAt_some

/-- What lay below n₀, and in block Bl, lies as it lay. -/
structure Keeps (n₀ Bl : Nat) (A B : World) : Prop where
  size : A.heap.size ≤ B.heap.size
  old : ∀ k o, k < n₀ ∨ k = Bl → A.heap[k]? = some o → B.heap[k]? = some o
theorem Keeps.refl (n₀ Bl : Nat) (A : World) : Keeps n₀ Bl A A := ⟨Nat.le_refl _, fun _ _ _ h => h⟩
theorem Keeps.trans {n₀ Bl : Nat} {A B C : World} (h : Keeps n₀ Bl A B) (k : Keeps n₀ Bl B C) : Keeps n₀ Bl A C := ⟨Nat.le_trans h.size k.size, fun j o hj ho => k.old j o hj (h.old j o hj ho)⟩
theorem Keeps.of_chg {n₀ Bl : Nat} {S : List Nat} {A B : World} (h : Chg S A B) (hS : ∀ k ∈ S, n₀ ≤ k ∧ k ≠ Bl) : Keeps n₀ Bl A B :=
  ⟨h.size, fun k o hk ho => h.heap ho (fun hm => by have := hS k hm; rcases hk with h | h <;> omega)⟩
theorem Keeps.of_turn {n₀ Bl B' : Nat} {A B : World} (h : Turn B' A B) (hn : n₀ ≤ B') (hB : Bl < B') : Keeps n₀ Bl A B := by
  obtain ⟨l, hl, hc⟩ := h.chg
  exact .of_chg hc (fun k hk => by simp only [List.mem_singleton] at hk; omega)
theorem Keeps.cell {n₀ Bl : Nat} {A B : World} (h : Keeps n₀ Bl A B) {p : Addr} {v : Value} (hc : A.cell? p = some v) (hp : p.block < n₀ ∨ p.block = Bl) : B.cell? p = some v := by
  obtain ⟨o, ho, _⟩ := cells_of_cell hc
  exact (World.cell?_of_block ((h.old _ _ hp ho).trans ho.symm)).trans hc
theorem kp_old {A B : World} (hs : A.heap.size ≤ B.heap.size) (h : ∀ k, k < A.heap.size → B.heap[k]? = A.heap[k]?) : Kp A B :=
  ⟨hs, fun p v hc => (World.cell?_of_block (h _ (World.block_lt_of_cell? _ _ hc))).trans hc⟩

def Cp.own (p : Cp) : Option Nat := (Value.slice p.2.1 p.1.kids.length p.2.2).ownBlock
/-- What a round is told of the node that it is handed. -/
def CopyX (n₀ : Nat) (ns : List Nd) (pre : List Cp) (p : Cp) (W : World) : Prop :=
  (pre.length < ns.length ∧ ns[pre.length]? = some p.1) ∧ FreshInts n₀ W p.2.1 p.2.2 p.1.kids ∧ (∀ q ∈ pre, ∀ i j, q.own = some i → p.own = some j → i < j)
def encCp (p : Cp) : Array Value := #[.agg (p.1.cells p.2.1 p.1.kids.length p.2.2)]

end Go.Proofs.Ytffjfkjlahdedaa
set_option linter.unusedVariables false
set_option linter.unusedSimpArgs false
namespace Go.Proofs.Ytffjfkjlahdedaa
open Go.RowKit Go.MapKept Go.Shelf

theorem keepsFrom_of_chg {B : Nat} {S : List Nat} {A A' : World} (h : Chg S A A') (hS : ∀ k ∈ S, k < B ∨ ∃ cur t m, A.heap[k]? = some (.cells cur t m)) : KeepsFrom B A A' :=
  ⟨h.size, fun k o hB hk ho => h.heap hk (fun hm => by
    rcases hS k hm with h1 | ⟨cur, t, m, h1⟩
    · omega
    · rw [hk] at h1; cases h1; cases ho)⟩
end Go.Proofs.Ytffjfkjlahdedaa
set_option linter.unusedVariables false
set_option linter.unusedSimpArgs false
namespace Go.Proofs.Ytffjfkjlahdedaa
open Go.RowKit Go.MapKept Go.Shelf
attribute [local go_sem] Oper.semAt_some

theorem CopyX.stays (B n₀ : Nat) (ns : List Nd) (pre : List Cp) (p : Cp) : Stays B (CopyX n₀ ns pre p) :=
  (Stays.pure _).and ((Stays.row B _ _ _ _ _ _).and (Stays.pure _))

end Go.Proofs.Ytffjfkjlahdedaa
set_option linter.unusedVariables false
set_option linter.unusedSimpArgs false
namespace Go.Proofs.Ytffjfkjlahdedaa
open Go.RowKit Go.MapKept Go.Shelf

def NewNodeF (w : World) (x : Nd) (e : Ending) (w' : World) : Prop :=
  ∃ a c, e = .returned (.agg (x.cells a x.kids.length c)) ∧ FreshInts w.heap.size w' a c x.kids ∧ Chg [] w w'

end Go.Proofs.Ytffjfkjlahdedaa
