/-
  slices.Clone of numbers and of rules: the same in memory of its own.
  Conditions: the lists read as data; they are within the reach.
-/
import Derived.Test.YtplpboknmhgpiaaCTnGCopy
import Derived.Lib.SliceRun
import Derived.Maps.AppendAt
import Derived.Test.YtplpboknmhgpiaaCTnGSeq
import Derived.Shelf.Abstract
import Derived.Shelf.RegionOpen
import Derived.WalkKit
import Derived.OwnWalkIn
import Derived.TacticsInMore
import Derived.LoopNIn
import Derived.LoopIn
import Derived.Sort.LoopGhostIn
import Derived.Test.YtplpboknmhgpiaaCTnNuA
import Derived.Test.YtplpboknmhgpiaaCTnG06A
import Derived.Test.YtplpboknmhgpiaaCTnG06T
set_option linter.unusedVariables false
set_option linter.unusedSimpArgs false
namespace Go.Proofs.Ytplpboknmhgpiaa
open Go.RowKit Go.MapKept Go.Shelf

/-- A row of one's own, beyond B, that holds numbers. -/
def FreshInts (B : Nat) (w : World) (a : Option Addr) (c : Nat) (zs : List Int) : Prop := w.ownsRow B 3 1 (.slice a zs.length c) zs.length (zs.map (Value.int .i64))
def FreshRules (B : Nat) (w : World) (a : Option Addr) (c : Nat) (rs : List Rl) : Prop := w.ownsRow B 136 2 (.slice a rs.length c) rs.length (rulesCells rs)
theorem row_base {W : World} {base base' : Nat} {e : TypeId} {size : Nat} {v : Value} {k : Nat} {xs : List Value} (h : W.ownsRow base e size v k xs) (hb : base' ≤ base) : W.ownsRow base' e size v k xs := by
  refine ⟨h.1, ?_⟩
  rcases h.2 with hn | ⟨g, cap, cur, hv, hbg, rest⟩
  · exact .inl hn
  · exact .inr ⟨g, cap, cur, hv, Nat.le_trans hb hbg, rest⟩
theorem FreshInts.own {B : Nat} {w : World} {a : Option Addr} {c : Nat} {zs : List Int} (h : FreshInts B w a c zs) : OwnInts w (.slice a zs.length c) zs := row_base h (Nat.zero_le _)
theorem row_beyond {W : World} {B : Nat} {e : TypeId} {size : Nat} {v : Value} {k : Nat} {xs : List Value} (h : W.ownsRow B e size v k xs) {j : Nat} (hj : v.ownBlock = some j) : B ≤ j ∧ j < W.heap.size ∧ ∃ cur, W.heap[j]? = some (.cells cur e (0, 0)) := by
  rcases h.2 with ⟨h0, h1⟩ | ⟨g, cap, cur, h0, hb, hg, _⟩
  · subst h0; cases hj
  · subst h0; cases hj; exact ⟨hb, (Array.getElem?_eq_some_iff.1 hg).1, cur, hg⟩
def ClonedInts (w : World) (zs : List Int) (e : Ending) (w' : World) : Prop := ∃ a c, e = .returned (.slice a zs.length c) ∧ FreshInts w.heap.size w' a c zs ∧ Chg [] w w'
def ClonedRules (w : World) (rs : List Rl) (e : Ending) (w' : World) : Prop := ∃ a c, e = .returned (.slice a rs.length c) ∧ FreshRules w.heap.size w' a c rs ∧ Chg [] w w'

end Go.Proofs.Ytplpboknmhgpiaa
set_option linter.unusedVariables false
set_option linter.unusedSimpArgs false
namespace Go.Proofs.Ytplpboknmhgpiaa
open Go.RowKit Go.MapKept Go.Shelf
attribute [local go_sem] Oper.semAt_some

/-- What lay below n₀, and in block Bl, lies as it lay. -/
structure Keeps (n₀ Bl : Nat) (A B : World) : Prop where
  size : A.heap.size ≤ B.heap.size
  old : ∀ k o, k < n₀ ∨ k = Bl → A.heap[k]? = some o → B.heap[k]? = some o
theorem Keeps.refl (n₀ Bl : Nat) (A : World) : Keeps n₀ Bl A A := ⟨Nat.le_refl _, fun _ _ _ h => h⟩
theorem Keeps.trans {n₀ Bl : Nat} {A B C : World} (h : Keeps n₀ Bl A B) (k : Keeps n₀ Bl B C) : Keeps n₀ Bl A C := ⟨Nat.le_trans h.size k.size, fun j o hj ho => k.old j o hj (h.old j o hj ho)⟩
theorem Keeps.of_chg {n₀ Bl : Nat} {S : List Nat} {A B : World} (h : Chg S A B) (hS : ∀ k ∈ S, n₀ ≤ k ∧ k ≠ Bl) : Keeps n₀ Bl A B :=
  ⟨h.size, fun k o hk ho => h.heap ho (fun hm => by have := hS k hm; rcases hk with h | h <;> omega)⟩
theorem Keeps.of_turn {n₀ Bl B' : Nat} {A B : World} (h : Turn B' A B) (hn : n₀ ≤ B') (hB : Bl < B') : Keeps n₀ Bl A B := by
  obtain ⟨l, hl, hc⟩ := h.chg
  exact .of_chg hc (fun k hk => by simp only [List.mem_singleton] at hk; omega)
theorem Keeps.cell {n₀ Bl : Nat} {A B : World} (h : Keeps n₀ Bl A B) {p : Addr} {v : Value} (hc : A.cell? p = some v) (hp : p.block < n₀ ∨ p.block = Bl) : B.cell? p = some v := by
  obtain ⟨o, ho, _⟩ := cells_of_cell hc
  exact (World.cell?_of_block ((h.old _ _ hp ho).trans ho.symm)).trans hc
theorem kp_old {A B : World} (hs : A.heap.size ≤ B.heap.size) (h : ∀ k, k < A.heap.size → B.heap[k]? = A.heap[k]?) : Kp A B :=
  ⟨hs, fun p v hc => (World.cell?_of_block (h _ (World.block_lt_of_cell? _ _ hc))).trans hc⟩

def Cp.own (p : Cp) : Option Nat := (Value.slice p.2.1 p.1.kids.length p.2.2).ownBlock
/-- What a round is told of the node that it is handed. -/
def CopyX (n₀ : Nat) (ns : List Nd) (pre : List Cp) (p : Cp) (W : World) : Prop :=
  (pre.length < ns.length ∧ ns[pre.length]? = some p.1) ∧ FreshInts n₀ W p.2.1 p.2.2 p.1.kids ∧ (∀ q ∈ pre, ∀ i j, q.own = some i → p.own = some j → i < j)
def encCp (p : Cp) : Array Value := #[.agg (p.1.cells p.2.1 p.1.kids.length p.2.2)]

end Go.Proofs.Ytplpboknmhgpiaa
set_option linter.unusedVariables false
set_option linter.unusedSimpArgs false
namespace Go.Proofs.Ytplpboknmhgpiaa
open Go.RowKit Go.MapKept Go.Shelf

/-- A node's size stays within the row. -/
theorem sizeG_in (g : Gr) (n : Int) : ∃ z : Nat, sizeG g n = z ∧ (0 < z → n = (n.toNat : Int) ∧ n.toNat + z ≤ g.nodes.length ∧ rightB g = true) := by
  unfold sizeG
  cases h : wholeT g with
  | none => exact ⟨0, rfl, fun h => by omega⟩
  | some t =>
    by_cases hn : 0 ≤ n ∧ n < g.nodes.length
    · simp only [if_pos hn]
      obtain ⟨hr, ht⟩ := wholeT_some h
      obtain ⟨z, hh, h1, h2, h3, _⟩ := tabOk_le (tab_ok ht) (Nat.zero_le n.toNat) (by omega)
      rw [Nat.sub_zero] at h1
      rw [h1]
      exact ⟨z, rfl, fun _ => ⟨by omega, h3, hr⟩⟩
    · simp only [if_neg hn]
      exact ⟨0, rfl, fun h => by omega⟩

abbrev Wk := Int × Cp
def encWk (x : Wk) : Array Value := #[.int .i64 x.1, .agg (x.2.1.cells x.2.2.1 x.2.1.kids.length x.2.2.2)]
/-- What a round is told. -/
def WalkX (n₀ N z : Nat) (ns : List Nd) (pre : List Wk) (x : Wk) (W : World) : Prop :=
  (pre.length < z ∧ x.1 = (N : Int) + pre.length ∧ ns[N + pre.length]? = some x.2.1) ∧ FreshInts n₀ W x.2.2.1 x.2.2.2 x.2.1.kids
theorem WalkX.stays (B n₀ N z : Nat) (ns : List Nd) (pre : List Wk) (x : Wk) : Stays B (WalkX n₀ N z ns pre x) := (Stays.pure _).and (Stays.row B _ _ _ _ _ _)

section
attribute [local go_sem] Oper.semAt_some
end

end Go.Proofs.Ytplpboknmhgpiaa
