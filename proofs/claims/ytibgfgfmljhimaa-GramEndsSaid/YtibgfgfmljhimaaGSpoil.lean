/-
  A grammar of one's own is written over, row by row: what stays as it is.
  Conditions: none.
-/
import Derived.Test.YtibgfgfmljhimaaGTwo
set_option linter.unusedVariables false
set_option linter.unusedSimpArgs false
namespace Go.Proofs.Ytibgfgfmljhimaa
open Go.RowKit Go.MapKept Go.Shelf

/-- A row that may be written. -/
def RowW (w : World) (e : TypeId) (size : Nat) (v : Value) (n : Nat) : Prop := n = 0 ∨ ∃ G cap cur, v = .slice (some ⟨G, 0, none⟩) n cap ∧ w.heap[G]? = some (.cells cur e (0, 0)) ∧ n * size ≤ cur.size ∧ n ≤ cap
theorem RowW.of {w : World} {base e size n : Nat} {v : Value} {xs : List Value} (h : w.ownsRow base e size v n xs) : RowW w e size v n := by
  rcases h.2 with ⟨_, h1⟩ | ⟨g, cap, cur, h0, _, hg, hn, _, hs, _⟩
  · exact .inl h1
  · exact .inr ⟨g, cap, cur, h0, hg, by rw [hs]; exact Nat.mul_le_mul_right _ hn, hn⟩
theorem cells_setCell {w : World} {G : Nat} {cur : Array Value} {e : TypeId} {m : Nat × Nat} (h : w.heap[G]? = some (.cells cur e m)) {p : Addr} (hp : p.spot = none) (u : Value) : ∃ cur', (w.setCell p u).heap[G]? = some (.cells cur' e m) ∧ cur'.size = cur.size := by
  obtain ⟨b, o, s⟩ := p
  simp only at hp
  subst hp
  by_cases hb : b = G
  · subst hb
    exact ⟨_, heap_setCell_same h o u, by simp⟩
  · exact ⟨cur, heap_set_ne (c := b) h (by omega), rfl⟩
theorem RowW.set {w : World} {e size n : Nat} {v : Value} (h : RowW w e size v n) {p : Addr} (hp : p.spot = none) (u : Value) : RowW (w.setCell p u) e size v n := by
  rcases h with h | ⟨G, cap, cur, h0, hg, hs, hc⟩
  · exact .inl h
  · obtain ⟨cur', h1, h2⟩ := cells_setCell hg hp u
    exact .inr ⟨G, cap, cur', h0, h1, by omega, hc⟩
theorem cell_at {w : World} {G : Nat} {cur : Array Value} {e : TypeId} {m : Nat × Nat} (h : w.heap[G]? = some (.cells cur e m)) {i : Nat} (hi : i < cur.size) : ∃ v, w.cell? ⟨G, i, none⟩ = some v :=
  ⟨cur[i], by rw [cell_of_cells h]; simp [hi]⟩

/-- The blocks of a grammar of one's own. -/
def rowsOf (b1 : Option Addr) (n1 d1 : Nat) (b2 : Option Addr) (n2 d2 : Nat) (L : List Cp) : List Nat := (Value.slice b1 n1 d1).ownBlock.toList ++ ((Value.slice b2 n2 d2).ownBlock.toList ++ L.flatMap fun p => p.own.toList)
structure SpoilI (w4 : World) (S : List Nat) (b1 : Option Addr) (n1 d1 : Nat) (b2 : Option Addr) (d2 : Nat) (L : List Cp) (i : Nat) (wr : World) : Prop where
  chg : Chg S w4 wr
  r1 : RowW wr 46 2 (.slice b1 n1 d1) n1
  r2 : RowW wr 32 9 (.slice b2 L.length d2) L.length
  kids : ∀ p ∈ L, RowW wr 3 1 (.slice p.2.1 p.1.kids.length p.2.2) p.1.kids.length
  rest : ∀ j (h : j < L.length), i ≤ j → ∀ G, b2 = some ⟨G, 0, none⟩ → wr.cell? ⟨G, j * 9 + 8, none⟩ = some (.slice L[j].2.1 L[j].1.kids.length L[j].2.2)

section
variable {w4 wr : World} {b1 : Option Addr} {n1 d1 : Nat} {b2 : Option Addr} {d2 : Nat} {L : List Cp} {i : Nat}
theorem SpoilI.start {B : Nat} {rs : List Rl} (S : List Nat) (h : OwnG B w4 b1 d1 b2 d2 L rs) : SpoilI w4 S b1 rs.length d1 b2 d2 L 0 w4 := by
  refine ⟨Chg.refl _ _, .of h.rules, .of h.nodes, fun p hp => .of (h.kids p hp), fun j hj _ G hG => ?_⟩
  rcases h.nodes.2 with ⟨h0, h1⟩ | ⟨g, cap, cur, h0, hb, hg, hn, hc, hs, ht⟩
  · omega
  · cases h0
    cases hG
    have h1 := flat_get Cp.cells 9 cp_len L j 8 (by decide)
    rw [List.getElem?_eq_getElem hj, Option.bind_some] at h1
    rw [cell_of_cells hg]
    have h2 : (nodesCells L)[j * 9 + 8]? = some (.slice L[j].2.1 L[j].1.kids.length L[j].2.2) := h1
    rw [← ht, List.getElem?_take] at h2
    split at h2
    · simpa using h2
    · cases h2
/-- A rule, or a kid, is written. -/
theorem SpoilI.put (S : List Nat) (h : SpoilI w4 S b1 n1 d1 b2 d2 L i wr) {p : Addr} (hp : p.spot = none) (hS : p.block ∈ S) (hne : ∀ G, b2 = some ⟨G, 0, none⟩ → p.block ≠ G) (u : Value) : SpoilI w4 S b1 n1 d1 b2 d2 L i (wr.setCell p u) :=
  ⟨h.chg.setCell (.inl hS) u, h.r1.set hp u, h.r2.set hp u, fun q hq => (h.kids q hq).set hp u, fun j hj hij G hG =>
    ((Chg.refl [p.block] wr).setCell (.inl (by simp)) u).cell (h.rest j hj hij G hG) (by simpa using fun e => hne G hG e.symm)⟩
/-- A cell of the node i is written. -/
theorem SpoilI.node (S : List Nat) (h : SpoilI w4 S b1 n1 d1 b2 d2 L (i + 1) wr) {G r : Nat} (hG : b2 = some ⟨G, 0, none⟩) (hS : G ∈ S) (hr : r < 9) (u : Value) : SpoilI w4 S b1 n1 d1 b2 d2 L (i + 1) (wr.setCell ⟨G, i * 9 + r, none⟩ u) :=
  ⟨h.chg.setCell (.inl hS) u, h.r1.set rfl u, h.r2.set rfl u, fun q hq => (h.kids q hq).set rfl u, fun j hj hij G' hG' => by
    rw [hG] at hG'
    cases hG'
    have h1 := h.rest j hj hij G hG
    rcases h.r2 with h0 | ⟨G2, cap, cur, e2, hg, _⟩
    · omega
    · cases e2
      cases hG
      rw [cell_of_cells hg] at h1
      rw [cell_of_cells (heap_setCell_same hg (i * 9 + r) u), Array.getElem?_setIfInBounds_ne (by omega)]
      exact h1⟩
theorem SpoilI.next (S : List Nat) (h : SpoilI w4 S b1 n1 d1 b2 d2 L i wr) : SpoilI w4 S b1 n1 d1 b2 d2 L (i + 1) wr := ⟨h.chg, h.r1, h.r2, h.kids, fun j hj hij => h.rest j hj (by omega)⟩
theorem rowW_at {w : World} {e size n k : Nat} {v : Value} (h : RowW w e size v n) (hk : k < n) : ∃ G cap cur, v = .slice (some ⟨G, 0, none⟩) n cap ∧ w.heap[G]? = some (.cells cur e (0, 0)) ∧ k * size + size ≤ cur.size := by
  rcases h with h | ⟨G, cap, cur, h0, h1, h2, _⟩
  · omega
  · refine ⟨G, cap, cur, h0, h1, Nat.le_trans ?_ h2⟩
    rw [← Nat.succ_mul]
    exact Nat.mul_le_mul_right _ hk
theorem SpoilI.other (h : SpoilI w4 (rowsOf b1 n1 d1 b2 L.length d2 L) b1 n1 d1 b2 d2 L i wr) {G : Nat} {cur : Array Value} {e : TypeId} (hG : wr.heap[G]? = some (.cells cur e (0, 0))) (he : e ≠ 32) (hS : G ∈ rowsOf b1 n1 d1 b2 L.length d2 L) (o : Nat) (u : Value) :
    SpoilI w4 (rowsOf b1 n1 d1 b2 L.length d2 L) b1 n1 d1 b2 d2 L i (wr.setCell ⟨G, o, none⟩ u) := by
  refine ⟨h.chg.setCell (.inl hS) u, h.r1.set rfl u, h.r2.set rfl u, fun q hq => (h.kids q hq).set rfl u, fun j hj hij G' hG' => ?_⟩
  refine ((Chg.refl [G] wr).setCell (p := ⟨G, o, none⟩) (.inl (by simp)) u).cell (h.rest j hj hij G' hG') ?_
  obtain ⟨G2, cap, cur2, e1, e2, _⟩ := rowW_at h.r2 hj
  rw [hG'] at e1
  cases e1
  intro hm
  simp only [List.mem_singleton] at hm
  subst hm
  rw [hG] at e2
  cases e2
  exact he rfl
theorem SpoilI.ruleAt (h : SpoilI w4 (rowsOf b1 n1 d1 b2 L.length d2 L) b1 n1 d1 b2 d2 L i wr) {k : Nat} (hk : k < n1) :
    ∃ G, b1 = some ⟨G, 0, none⟩ ∧ (∃ v, wr.cell? ⟨G, k * 2, none⟩ = some v) ∧ (∃ v, wr.cell? ⟨G, k * 2 + 1, none⟩ = some v) ∧ wr.frozen? ⟨G, k * 2, none⟩ = false ∧ wr.frozen? ⟨G, k * 2 + 1, none⟩ = false ∧
      ∀ u1 u2, SpoilI w4 (rowsOf b1 n1 d1 b2 L.length d2 L) b1 n1 d1 b2 d2 L i ((wr.setCell ⟨G, k * 2, none⟩ u1).setCell ⟨G, k * 2 + 1, none⟩ u2) := by
  obtain ⟨G, cap, cur, e1, e2, e3⟩ := rowW_at h.r1 hk
  cases e1
  have hS : G ∈ rowsOf (some ⟨G, 0, none⟩) n1 d1 b2 L.length d2 L := by simp [rowsOf, Value.ownBlock]
  refine ⟨G, rfl, cell_at e2 (by omega), cell_at e2 (by omega), free_of_cells e2 _, free_of_cells e2 _, fun u1 u2 => ?_⟩
  exact (h.other e2 (by decide) hS _ u1).other (heap_setCell_same e2 _ _) (by decide) hS _ u2
theorem SpoilI.kidAt (h : SpoilI w4 (rowsOf b1 n1 d1 b2 L.length d2 L) b1 n1 d1 b2 d2 L i wr) (hi : i < L.length) {k : Nat} (hk : k < L[i].1.kids.length) :
    ∃ K, L[i].2.1 = some ⟨K, 0, none⟩ ∧ (∃ v, wr.cell? ⟨K, k, none⟩ = some v) ∧ wr.frozen? ⟨K, k, none⟩ = false ∧ ∀ u, SpoilI w4 (rowsOf b1 n1 d1 b2 L.length d2 L) b1 n1 d1 b2 d2 L i (wr.setCell ⟨K, k, none⟩ u) := by
  obtain ⟨K, cap, cur, e1, e2, e3⟩ := rowW_at (h.kids _ (List.getElem_mem hi)) hk
  have e4 : L[i].2.1 = some ⟨K, 0, none⟩ := by injection e1
  have hS : K ∈ rowsOf b1 n1 d1 b2 L.length d2 L := by
    simp only [rowsOf, List.mem_append, List.mem_flatMap]
    exact .inr (.inr ⟨L[i], List.getElem_mem hi, by simp [Cp.own, e4, Value.ownBlock]⟩)
  exact ⟨K, e4, cell_at e2 (by omega), free_of_cells e2 _, fun u => h.other e2 (by decide) hS _ u⟩
theorem SpoilI.nodeAt (h : SpoilI w4 (rowsOf b1 n1 d1 b2 L.length d2 L) b1 n1 d1 b2 d2 L i wr) (hi : i < L.length) :
    ∃ G, b2 = some ⟨G, 0, none⟩ ∧ wr.cell? ⟨G, i * 9 + 8, none⟩ = some (.slice L[i].2.1 L[i].1.kids.length L[i].2.2) ∧ (∀ r, r < 9 → ∃ v, wr.cell? ⟨G, i * 9 + r, none⟩ = some v) ∧ (∀ r, wr.frozen? ⟨G, i * 9 + r, none⟩ = false) ∧
      ∀ u0 u1 u2 u3 u4 u5 u6 u7 u8, SpoilI w4 (rowsOf b1 n1 d1 b2 L.length d2 L) b1 n1 d1 b2 d2 L (i + 1) (((((((((wr.setCell ⟨G, i * 9, none⟩ u0).setCell ⟨G, i * 9 + 1, none⟩ u1).setCell ⟨G, i * 9 + 2, none⟩ u2).setCell ⟨G, i * 9 + 3, none⟩ u3).setCell ⟨G, i * 9 + 4, none⟩ u4).setCell ⟨G, i * 9 + 5, none⟩ u5).setCell ⟨G, i * 9 + 6, none⟩ u6).setCell ⟨G, i * 9 + 7, none⟩ u7).setCell ⟨G, i * 9 + 8, none⟩ u8) := by
  obtain ⟨G, cap, cur, e1, e2, e3⟩ := rowW_at h.r2 hi
  cases e1
  have hS : G ∈ rowsOf b1 n1 d1 (some ⟨G, 0, none⟩) L.length d2 L := by simp [rowsOf, Value.ownBlock]
  refine ⟨G, rfl, h.rest i hi (Nat.le_refl _) G rfl, fun r hr => cell_at e2 (by omega), fun r => free_of_cells e2 _, fun u0 u1 u2 u3 u4 u5 u6 u7 u8 => ?_⟩
  exact ((((((((((h.next _).node _ rfl hS (r := 0) (by decide) u0).node _ rfl hS (r := 1) (by decide) u1).node _ rfl hS (r := 2) (by decide) u2).node _ rfl hS (r := 3) (by decide) u3).node _ rfl hS (r := 4) (by decide) u4).node _ rfl hS (r := 5) (by decide) u5).node _ rfl hS (r := 6) (by decide) u6).node _ rfl hS (r := 7) (by decide) u7).node _ rfl hS (r := 8) (by decide) u8)
end
/-- The rows of a copy between lo and hi. -/
theorem rowsOf_in {lo hi : Nat} {w : World} {g : Gr} {v : Value} {b1 : Option Addr} {d1 : Nat} {b2 : Option Addr} {d2 : Nat} {L : List Cp} (h : DupIn lo hi w g v b1 d1 b2 d2 L) : ∀ k ∈ rowsOf b1 g.rules.length d1 b2 L.length d2 L, lo ≤ k ∧ k < hi ∧ ∃ cur t, w.heap[k]? = some (.cells cur t (0, 0)) ∧ t ≠ 25 := by
  intro k hk
  simp only [rowsOf, List.mem_append, List.mem_flatMap, Option.mem_toList] at hk
  rcases hk with hk | hk | ⟨p, hp, hk⟩
  · obtain ⟨q1, q2, cur, q3⟩ := row_beyond h.own.rules hk
    exact ⟨q1, h.hi1 k hk, cur, _, q3, by decide⟩
  · obtain ⟨q1, q2, cur, q3⟩ := row_beyond h.own.nodes hk
    exact ⟨q1, h.hi2 k hk, cur, _, q3, by decide⟩
  · obtain ⟨q1, q2, cur, q3⟩ := row_beyond (h.own.kids p hp) hk
    exact ⟨q1, h.hi3 p hp k hk, cur, _, q3, by decide⟩
end Go.Proofs.Ytibgfgfmljhimaa
