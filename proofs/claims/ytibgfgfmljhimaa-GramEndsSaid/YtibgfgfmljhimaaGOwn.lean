/-
  A grammar in memory of one's own: what it is, what leaves it as it is, how it grows by a node, how a cell of it is written.
  Conditions: none.
-/
import Derived.Test.YtibgfgfmljhimaaGCps
set_option linter.unusedVariables false
set_option linter.unusedSimpArgs false
namespace Go.Proofs.Ytibgfgfmljhimaa
open Go.RowKit Go.MapKept Go.Shelf

/-- Rules, nodes and each node's kids in rows of their own, all beyond B. -/
structure OwnG (B : Nat) (w : World) (b1 : Option Addr) (d1 : Nat) (b2 : Option Addr) (d2 : Nat) (L : List Cp) (rs : List Rl) : Prop where
  rules : FreshRules B w b1 d1 rs
  nodes : w.ownsRow B 32 9 (.slice b2 L.length d2) L.length (nodesCells L)
  kids : ∀ p ∈ L, FreshInts B w p.2.1 p.2.2 p.1.kids
  apart : L.Pairwise fun q p => ∀ i j, q.own = some i → p.own = some j → i < j
theorem OwnG.gram {B : Nat} {w : World} {b1 : Option Addr} {d1 : Nat} {b2 : Option Addr} {d2 : Nat} {L : List Cp} {rs : List Rl} (h : OwnG B w b1 d1 b2 d2 L rs) (wf : Gr.Wf ⟨rs, L.map (·.1)⟩) : GramAt w b1 rs.length d1 b2 L.length d2 ⟨rs, L.map (·.1)⟩ := by
  obtain ⟨k1, k2, k3, k4⟩ := rules_row (row_base h.rules (Nat.zero_le _))
  obtain ⟨m1, m2, m3, m4⟩ := nodes_row (row_base h.nodes (Nat.zero_le _)) (fun p hp => (h.kids p hp).own)
  exact ⟨rfl, k3, k4, k1, by simp, m3, m4, m1, wf⟩
/-- What is no row of it is changed. -/
theorem OwnG.chg {B : Nat} {w w' : World} {S : List Nat} {b1 : Option Addr} {d1 : Nat} {b2 : Option Addr} {d2 : Nat} {L : List Cp} {rs : List Rl} (h : OwnG B w b1 d1 b2 d2 L rs) (hc : Chg S w w')
    (hS : ∀ k ∈ S, NotRow w 46 k ∧ NotRow w 32 k ∧ NotRow w 3 k) : OwnG B w' b1 d1 b2 d2 L rs :=
  ⟨hc.rowOf h.rules (fun k hk => (hS k hk).1), hc.rowOf h.nodes (fun k hk => (hS k hk).2.1), fun p hp => hc.rowOf (h.kids p hp) (fun k hk => (hS k hk).2.2), h.apart⟩
theorem OwnG.chg0 {B : Nat} {w w' : World} {b1 : Option Addr} {d1 : Nat} {b2 : Option Addr} {d2 : Nat} {L : List Cp} {rs : List Rl} (h : OwnG B w b1 d1 b2 d2 L rs) (hc : Chg [] w w') : OwnG B w' b1 d1 b2 d2 L rs := h.chg hc (by simp)
theorem OwnG.stays (B0 B : Nat) (b1 : Option Addr) (d1 : Nat) (b2 : Option Addr) (d2 : Nat) (L : List Cp) (rs : List Rl) : Stays B0 fun W => OwnG B W b1 d1 b2 d2 L rs :=
  ⟨fun h hc => h.chg0 hc, fun h ht => ⟨(Stays.row B0 _ _ _ _ _ _).turn h.rules ht, (Stays.row B0 _ _ _ _ _ _).turn h.nodes ht, fun p hp => (Stays.row B0 _ _ _ _ _ _).turn (h.kids p hp) ht, h.apart⟩⟩
/-- It lies apart from what lay below B. -/
theorem OwnG.below {B B' : Nat} {w : World} {b1 : Option Addr} {d1 : Nat} {b2 : Option Addr} {d2 : Nat} {L : List Cp} {rs : List Rl} (h : OwnG B w b1 d1 b2 d2 L rs) (hB : B' ≤ B) : OwnG B' w b1 d1 b2 d2 L rs :=
  ⟨row_base h.rules hB, row_base h.nodes hB, fun p hp => row_base (h.kids p hp) hB, h.apart⟩
/-- Blocks below B are changed. -/
theorem OwnG.under {B : Nat} {w w' : World} {S : List Nat} {b1 : Option Addr} {d1 : Nat} {b2 : Option Addr} {d2 : Nat} {L : List Cp} {rs : List Rl} (h : OwnG B w b1 d1 b2 d2 L rs) (hc : Chg S w w') (hS : ∀ k ∈ S, k < B) : OwnG B w' b1 d1 b2 d2 L rs := by
  have key : ∀ {e size n : Nat} {v : Value} {xs : List Value}, w.ownsRow B e size v n xs → w'.ownsRow B e size v n xs := fun h1 => hc.row h1 (fun k hk hm => by have := (row_beyond h1 hk).1; have := hS k hm; omega)
  exact ⟨key h.rules, key h.nodes, fun p hp => key (h.kids p hp), h.apart⟩
/-- The node's row, behind a node more. -/
theorem OwnG.snoc {B : Nat} {w w1 : World} {b1 : Option Addr} {d1 : Nat} {b2 b2' : Option Addr} {d2 d2' : Nat} {L : List Cp} {rs : List Rl} {p : Cp} (h : OwnG B w b1 d1 b2 d2 L rs) (hp : FreshInts B w p.2.1 p.2.2 p.1.kids) (ha : ∀ q ∈ L, ∀ i j, q.own = some i → p.own = some j → i < j)
    (hr : w1.ownsRow B 32 9 (.slice b2' (L.length + 1) d2') (L.length + 1) (nodesCells L ++ p.cells)) (hg : w.grownBy w1 (Value.slice b2 L.length d2).ownBlock) : OwnG B w1 b1 d1 b2' d2' (L ++ [p]) rs := by
  have hc : Chg (Value.slice b2 L.length d2).ownBlock.toList w w1 := (Chg.refl _ w).grown hg (fun k hk => .inl (by rw [hk]; simp))
  have hS : ∀ e, 32 ≠ e → ∀ k ∈ (Value.slice b2 L.length d2).ownBlock.toList, NotRow w e k := by
    intro e he k hk
    simp only [Option.mem_toList] at hk
    exact row_notrow h.nodes hk he
  refine ⟨hc.rowOf h.rules (hS _ (by decide)), ?_, ?_, ?_⟩
  · have : nodesCells (L ++ [p]) = nodesCells L ++ p.cells := by rw [nodesCells, nodesCells, List.flatMap_append, List.flatMap_singleton]
    rw [this, List.length_append]; exact hr
  · intro q hq
    rcases List.mem_append.1 hq with hq | hq
    · exact hc.rowOf (h.kids q hq) (hS _ (by decide))
    · simp only [List.mem_singleton] at hq
      subst hq
      exact hc.rowOf hp (hS _ (by decide))
  · rw [List.pairwise_append]
    exact ⟨h.apart, List.pairwise_singleton _ _, fun q hq r hr => by simp only [List.mem_singleton] at hr; subst hr; exact ha q hq⟩
theorem keepsFrom_of_chg {B : Nat} {S : List Nat} {A A' : World} (h : Chg S A A') (hS : ∀ k ∈ S, k < B ∨ ∃ cur t m, A.heap[k]? = some (.cells cur t m)) : KeepsFrom B A A' :=
  ⟨h.size, fun k o hB hk ho => h.heap hk (fun hm => by
    rcases hS k hm with h1 | ⟨cur, t, m, h1⟩
    · omega
    · rw [hk] at h1; cases h1; cases ho)⟩
end Go.Proofs.Ytibgfgfmljhimaa
