/-
  Nodes in rows of their own: how a cell reads, how a kid is written, how one gets a kid more, how rows are joined.
  Conditions: none.
-/
import Derived.Test.YtibgfgfmljhimaaGreatLeGFresh
set_option linter.unusedVariables false
set_option linter.unusedSimpArgs false
namespace Go.Proofs.YtibgfgfmljhimaaGreat
open Go.RowKit Go.MapKept Go.Shelf

/-- Nodes, and each node's kids, in rows of their own, each apart from each other one. -/
structure OwnN (B : Nat) (w : World) (b2 : Option Addr) (d2 : Nat) (L : List Cp) : Prop where
  nodes : w.ownsRow B 53 9 (.slice b2 L.length d2) L.length (nodesCells L)
  kids : ∀ p ∈ L, FreshInts B w p.2.1 p.2.2 p.1.kids
  apart : L.Pairwise fun q p => ∀ i j, q.own = some i → p.own = some j → i ≠ j
theorem OwnG.ownN {B : Nat} {w : World} {b1 : Option Addr} {d1 : Nat} {b2 : Option Addr} {d2 : Nat} {L : List Cp} {rs : List Rl} (h : OwnG B w b1 d1 b2 d2 L rs) : OwnN B w b2 d2 L :=
  ⟨h.nodes, h.kids, h.apart.imp fun hh i j hi hj => by have := hh i j hi hj; omega⟩
theorem OwnN.nil (B : Nat) (w : World) : OwnN B w none 0 [] := ⟨World.ownsRow_nil _ _ _ _, by simp, List.Pairwise.nil⟩
theorem OwnN.chg {B : Nat} {w w' : World} {S : List Nat} {b2 : Option Addr} {d2 : Nat} {L : List Cp} (h : OwnN B w b2 d2 L) (hc : Chg S w w') (hS : ∀ k ∈ S, NotRow w 53 k ∧ NotRow w 3 k) : OwnN B w' b2 d2 L :=
  ⟨hc.rowOf h.nodes (fun k hk => (hS k hk).1), fun p hp => hc.rowOf (h.kids p hp) (fun k hk => (hS k hk).2), h.apart⟩
theorem OwnN.chg0 {B : Nat} {w w' : World} {b2 : Option Addr} {d2 : Nat} {L : List Cp} (h : OwnN B w b2 d2 L) (hc : Chg [] w w') : OwnN B w' b2 d2 L := h.chg hc (by simp)
theorem OwnN.below {B B' : Nat} {w : World} {b2 : Option Addr} {d2 : Nat} {L : List Cp} (h : OwnN B w b2 d2 L) (hB : B' ≤ B) : OwnN B' w b2 d2 L :=
  ⟨row_base h.nodes hB, fun p hp => row_base (h.kids p hp) hB, h.apart⟩
theorem OwnN.read {B : Nat} {w : World} {b2 : Option Addr} {d2 : Nat} {L : List Cp} (h : OwnN B w b2 d2 L) : Nodes w b2 (L.map (·.1)) ∧ L.length ≤ d2 ∧ d2 ≤ maxLen := by
  obtain ⟨m1, m2, m3, m4⟩ := nodes_row (row_base h.nodes (Nat.zero_le _)) (fun p hp => (h.kids p hp).own)
  exact ⟨m1, m3, m4⟩
/-- How a node's cells read. -/
theorem OwnN.at {B : Nat} {w : World} {b2 : Option Addr} {d2 : Nat} {L : List Cp} (h : OwnN B w b2 d2 L) {i : Nat} (hi : i < L.length) :
    ∃ G, b2 = some ⟨G, 0, none⟩ ∧ B ≤ G ∧ (∃ cur, w.heap[G]? = some (.cells cur 53 (0, 0))) ∧ (∀ r, r < 9 → w.cell? ⟨G, i * 9 + r, none⟩ = L[i].cells[r]?) ∧ ∀ o, w.frozen? ⟨G, o, none⟩ = false := by
  rcases h.nodes.2 with ⟨h0, h1⟩ | ⟨g, cap, cur, h0, hb, hg, hn, hc, hs, ht⟩
  · omega
  · cases h0
    refine ⟨g, rfl, hb, ⟨cur, hg⟩, fun r hr => ?_, fun o => free_of_cells hg o⟩
    have h1 := flat_get Cp.cells 9 cp_len L i r hr
    rw [List.getElem?_eq_getElem hi, Option.bind_some] at h1
    have h3 : L[i].cells[r]? = some (L[i].cells[r]'(by rw [cp_len]; exact hr)) := List.getElem?_eq_getElem _
    rw [cell_of_cells hg, h3]
    have h2 : (nodesCells L)[i * 9 + r]? = some (L[i].cells[r]'(by rw [cp_len]; exact hr)) := h1.trans h3
    rw [← ht, List.getElem?_take] at h2
    split at h2
    · simpa using h2
    · cases h2
def Nd.setKid (x : Nd) (k : Nat) (v : Int) : Nd := { x with kids := x.kids.set k v }
def Cp.setKid (p : Cp) (k : Nat) (v : Int) : Cp := (p.1.setKid k v, p.2.1, p.2.2)
theorem setKid_cells (p : Cp) (k : Nat) (v : Int) : (p.setKid k v).cells = p.cells := by
  simp only [Cp.cells, Cp.setKid, Nd.setKid, List.length_set]; rfl
theorem setKid_own (p : Cp) (k : Nat) (v : Int) : (p.setKid k v).own = p.own := by simp only [Cp.own, Cp.setKid, Nd.setKid, List.length_set]
theorem cells_set' {L : List Cp} {i : Nat} (hi : i < L.length) {q : Cp} (h : q.cells = L[i].cells) : nodesCells (L.set i q) = nodesCells L := by
  rw [nodesCells, nodesCells, List.flatMap_def, List.flatMap_def, List.map_set, h]
  congr 1
  apply List.ext_getElem
  · simp
  · intro j h1 h2
    rw [List.getElem_set]
    split
    · rename_i hij; subst hij; simp
    · rfl
theorem ints_take {zs : List Int} {cur : Array Value} (h : cur.toList.take zs.length = zs.map (Value.int .i64)) {k : Nat} (hk : k < zs.length) (v : Int) (hc : zs.length ≤ cur.size) :
    (cur.setIfInBounds k (.int .i64 v)).toList.take zs.length = (zs.set k v).map (Value.int .i64) := by
  rw [Array.toList_setIfInBounds, List.take_set, h, List.map_set]
/-- A kid is written. -/
theorem OwnN.kidPut {B : Nat} {w : World} {b2 : Option Addr} {d2 : Nat} {L : List Cp} (h : OwnN B w b2 d2 L) {i : Nat} (hi : i < L.length) {k : Nat} (hk : k < L[i].1.kids.length) :
    ∃ K, L[i].2.1 = some ⟨K, 0, none⟩ ∧ B ≤ K ∧ w.cell? ⟨K, k, none⟩ = some (.int .i64 L[i].1.kids[k]) ∧ w.frozen? ⟨K, k, none⟩ = false ∧
      ∀ v, OwnN B (w.setCell ⟨K, k, none⟩ (.int .i64 v)) b2 d2 (L.set i (L[i].setKid k v)) ∧ Chg [K] w (w.setCell ⟨K, k, none⟩ (.int .i64 v)) := by
  have hik := h.kids _ (List.getElem_mem hi)
  rcases hik.2 with ⟨h0, h1⟩ | ⟨K, cap, cur, h0, hb, hg, hn, hcm, hcs, ht⟩
  · omega
  have hK : L[i].2.1 = some ⟨K, 0, none⟩ := by injection h0
  have hcap : cap = L[i].2.2 := by injection h0 with _ _ h0; exact h0.symm
  subst hcap
  have hKo : L[i].own = some K := by simp [Cp.own, hK, Value.ownBlock]
  refine ⟨K, hK, hb, ?_, free_of_cells hg _, fun v => ?_⟩
  · rw [cell_of_cells hg]
    have h1 : (L[i].1.kids.map (Value.int .i64))[k]? = some (.int .i64 L[i].1.kids[k]) := by simp [hk]
    rw [← ht, List.getElem?_take] at h1
    split at h1
    · simpa using h1
    · cases h1
  have hc := (Chg.refl [K] w).setCell (p := ⟨K, k, none⟩) (.inl (by simp)) (.int .i64 v)
  have hN : ∀ e, 3 ≠ e → ∀ k ∈ [K], NotRow w e k := fun e he k hk => by simp only [List.mem_singleton] at hk; subst hk; exact .of_cells hg he
  have hap : ∀ a b (ha : a < L.length) (hb : b < L.length), a < b → ∀ i j, L[a].own = some i → L[b].own = some j → i ≠ j := fun a b ha hb hab => List.pairwise_iff_getElem.1 h.apart a b ha hb hab
  refine ⟨⟨?_, ?_, ?_⟩, hc⟩
  · rw [List.length_set, cells_set' hi (setKid_cells _ _ _)]
    exact hc.rowOf h.nodes (hN _ (by decide))
  · intro p hp
    obtain ⟨j, hj, rfl⟩ := List.mem_iff_getElem.1 hp
    have hj' : j < L.length := by simpa using hj
    rw [List.getElem_set]
    split
    · rename_i hij
      subst hij
      refine ⟨by simp [Cp.setKid, Nd.setKid], .inr ⟨K, L[i].2.2, _, ?_, hb, heap_setCell_same hg _ _, ?_, hcm, by simpa using hcs, ?_⟩⟩
      · simp [Cp.setKid, Nd.setKid, hK]
      · simp only [Cp.setKid, Nd.setKid, List.length_set]; exact hn
      · simp only [Cp.setKid, Nd.setKid, List.length_set, Nat.mul_one]
        exact ints_take (by simpa using ht) hk v (by omega)
    · rename_i hij
      refine hc.row (h.kids _ (List.getElem_mem hj')) (fun k hk hm => ?_)
      simp only [List.mem_singleton] at hm
      subst hm
      rcases Nat.lt_or_gt_of_ne hij with hlt | hlt
      · exact hap i j hi hj' hlt _ _ hKo hk rfl
      · exact hap j i hj' hi hlt _ _ hk hKo rfl
  · rw [List.pairwise_iff_getElem]
    intro a b ha hb hab x y hx hy
    have ha' : a < L.length := by simpa using ha
    have hb' : b < L.length := by simpa using hb
    have key : ∀ c (hc : c < L.length) (hc' : c < (L.set i (L[i].setKid k v)).length), ((L.set i (L[i].setKid k v))[c]).own = L[c].own := by
      intro c hc hc'
      rw [List.getElem_set]
      split
      · rename_i hic; subst hic; exact setKid_own _ _ _
      · rfl
    rw [key a ha' ha] at hx
    rw [key b hb' hb] at hy
    exact hap a b ha' hb' hab x y hx hy
/-- Rows are joined: nodes that lie beyond all that there was. -/
theorem OwnN.join {B : Nat} {w w1 : World} {b2 b2' : Option Addr} {d2 d2' : Nat} {L M : List Cp} (h : OwnN B w b2 d2 L) (hM : ∀ p ∈ M, FreshInts B w p.2.1 p.2.2 p.1.kids) (ha : M.Pairwise fun q p => ∀ i j, q.own = some i → p.own = some j → i ≠ j)
    (hx : ∀ q ∈ L, ∀ p ∈ M, ∀ i j, q.own = some i → p.own = some j → i ≠ j)
    (hr : w1.ownsRow B 53 9 (.slice b2' (L.length + M.length) d2') (L.length + M.length) (nodesCells L ++ nodesCells M)) (hg : w.grownBy w1 (Value.slice b2 L.length d2).ownBlock) : OwnN B w1 b2' d2' (L ++ M) := by
  have hc : Chg (Value.slice b2 L.length d2).ownBlock.toList w w1 := (Chg.refl _ w).grown hg (fun k hk => .inl (by rw [hk]; simp))
  have hS : ∀ e, 53 ≠ e → ∀ k ∈ (Value.slice b2 L.length d2).ownBlock.toList, NotRow w e k := by
    intro e he k hk
    simp only [Option.mem_toList] at hk
    exact row_notrow h.nodes hk he
  refine ⟨?_, ?_, ?_⟩
  · have : nodesCells (L ++ M) = nodesCells L ++ nodesCells M := by rw [nodesCells, nodesCells, nodesCells, List.flatMap_append]
    rw [this, List.length_append]; exact hr
  · intro q hq
    rcases List.mem_append.1 hq with hq | hq
    · exact hc.rowOf (h.kids q hq) (hS _ (by decide))
    · exact hc.rowOf (hM q hq) (hS _ (by decide))
  · rw [List.pairwise_append]
    exact ⟨h.apart, ha, hx⟩
def Nd.addKid (x : Nd) (v : Int) : Nd := { x with kids := x.kids ++ [v] }
theorem addKid_len (x : Nd) (v : Int) : (x.addKid v).kids.length = x.kids.length + 1 := by simp [Nd.addKid]
/-- The first node gets a kid more. -/
theorem OwnN.more {B : Nat} {w w1 : World} {b2 : Option Addr} {d2 : Nat} {p : Cp} {L : List Cp} {v : Int} {a' : Option Addr} {c' G : Nat} (h : OwnN B w b2 d2 (p :: L)) (hB : B ≤ w.heap.size) (hG : b2 = some ⟨G, 0, none⟩)
    (hr : w1.ownsRow B 3 1 (.slice a' (p.1.kids.length + 1) c') (p.1.kids.length + 1) (p.1.kids.map (Value.int .i64) ++ [.int .i64 v])) (hg : w.grownBy w1 p.own)
    (hb : (Value.slice a' (p.1.kids.length + 1) c').ownBlock = p.own ∨ (Value.slice a' (p.1.kids.length + 1) c').ownBlock = some w.heap.size) :
    OwnN B (w1.setCell ⟨G, 8, none⟩ (.slice a' (p.1.kids.length + 1) c')) b2 d2 ((p.1.addKid v, a', c') :: L) ∧ Chg (p.own.toList ++ [G]) w (w1.setCell ⟨G, 8, none⟩ (.slice a' (p.1.kids.length + 1) c')) := by
  subst hG
  have hc1 : Chg p.own.toList w w1 := (Chg.refl _ w).grown hg (fun k hk => .inl (by rw [hk]; simp))
  have hc2 := (Chg.refl [G] w1).setCell (p := ⟨G, 8, none⟩) (.inl (by simp)) (.slice a' (p.1.kids.length + 1) c')
  have hpk := h.kids p (by simp)
  obtain ⟨hap1, hap2⟩ := List.pairwise_cons.1 h.apart
  have hN1 : ∀ k ∈ p.own.toList, NotRow w 53 k := fun k hk => by simp only [Option.mem_toList] at hk; exact row_notrow hpk hk (by decide)
  have hrow1 := hc1.rowOf h.nodes hN1
  have hL1 : ∀ q ∈ L, FreshInts B w1 q.2.1 q.2.2 q.1.kids := fun q hq => hc1.row (h.kids q (by simp [hq])) (fun k hk hm => by
    simp only [Option.mem_toList] at hm
    exact hap1 q hq k k hm hk rfl)
  rcases hrow1.2 with ⟨h0, h1⟩ | ⟨g, cap, cur, h0, hbg, hg1, hn, hcm, hcs, ht⟩
  · cases h0
  cases h0
  have hN2 : ∀ k ∈ [G], NotRow w1 3 k := fun k hk => by simp only [List.mem_singleton] at hk; subst hk; exact .of_cells hg1 (by decide)
  have hG8 : G < w1.heap.size := lt_of_block hg1
  have hown' : ∀ k, (Value.slice a' (p.1.kids.length + 1) c').ownBlock = some k → k ≠ G := by
    intro k hk e
    subst e
    have h3 := row_beyond hr hk
    obtain ⟨_, _, cur3, h3⟩ := h3
    rw [hg1] at h3
    cases h3
  refine ⟨⟨⟨by rw [nodesCells, flat_len Cp.cells 9 cp_len], .inr ⟨G, d2, _, rfl, hbg, heap_setCell_same hg1 _ _, by simpa using hn, hcm, by simpa using hcs, ?_⟩⟩, ?_, ?_⟩, ?_⟩
  · have hp9 : 9 ≤ cur.toList.length := by
      have := congrArg List.length ht
      rw [List.length_take] at this
      have h2 : (nodesCells (p :: L)).length = (p :: L).length * 9 := flat_len Cp.cells 9 cp_len _
      rw [h2] at this
      simp only [List.length_cons] at this ⊢
      omega
    rw [Array.toList_setIfInBounds, List.take_set]
    show (List.take ((p :: L).length * 9) cur.toList).set 8 _ = _
    rw [ht]
    have e1 : nodesCells (p :: L) = p.cells ++ nodesCells L := by simp [nodesCells]
    rw [e1, List.set_append_left _ _ (by rw [cp_len]; decide)]
    have e2 : nodesCells ((p.1.addKid v, a', c') :: L) = Cp.cells (p.1.addKid v, a', c') ++ nodesCells L := by simp [nodesCells]
    rw [e2]
    congr 1
    simp [Cp.cells, Nd.cells, addKid_len]
    simp [Nd.addKid]
  · intro q hq
    rcases List.mem_cons.1 hq with rfl | hq
    · have hr' : FreshInts B w1 a' c' (p.1.addKid v).kids := by simpa [FreshInts, Nd.addKid] using hr
      refine hc2.row hr' (fun k hk hm => ?_)
      simp only [List.mem_singleton] at hm
      rw [addKid_len] at hk
      exact hown' k hk hm
    · exact hc2.rowOf (hL1 q hq) hN2
  · rw [List.pairwise_cons]
    refine ⟨fun q hq i j hi hj e => ?_, hap2⟩
    subst e
    have hi' : (Value.slice a' (p.1.kids.length + 1) c').ownBlock = some i := by simpa [Cp.own, addKid_len] using hi
    rcases hb with hb | hb
    · exact hap1 q hq i i (hb ▸ hi') hj rfl
    · rw [hb] at hi'
      cases hi'
      have := (row_beyond (h.kids q (by simp [hq])) hj).2.1
      omega
  · exact (hc1.mono (T := p.own.toList ++ [G]) (fun j hj => .inl (by simp [hj]))).trans hc2 (fun j hj => .inl (by simp at hj; simp [hj]))
end Go.Proofs.YtibgfgfmljhimaaGreat
