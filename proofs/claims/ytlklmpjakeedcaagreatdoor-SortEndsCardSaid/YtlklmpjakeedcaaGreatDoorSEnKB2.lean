/-
 Nodes in rows of their own: how a cell reads, how a kid is written, how one gets a kid more, how rows are joined.
 Conditions: none.
-/
import Derived.Test.YtlklmpjakeedcaaGreatDoorSEnGFresh
import Derived.Test.YtlklmpjakeedcaaGreatDoorSEnNuB
set_option linter.unusedVariables false
set_option linter.unusedSimpArgs false
namespace Go.Proofs.YtlklmpjakeedcaaGreatDoor
open Go.RowKit Go.MapKept Go.Shelf

/-- Nodes, and each node's kids, in rows of their own, each apart from each other one. -/
structure OwnN (B : Nat) (w : World) (b2 : Option Addr) (d2 : Nat) (L : List Cp) : Prop where
 nodes : w.ownsRow B 65 9 (.slice b2 L.length d2) L.length (nodesCells L)
 kids : ∀ p ∈ L, FreshInts B w p.2.1 p.2.2 p.1.kids
 apart : L.Pairwise fun q p => ∀ i j, q.own = some i → p.own = some j → i ≠ j
theorem OwnG.ownN {B : Nat} {w : World} {b1 : Option Addr} {d1 : Nat} {b2 : Option Addr} {d2 : Nat} {L : List Cp} {rs : List Rl} (h : OwnG B w b1 d1 b2 d2 L rs) : OwnN B w b2 d2 L :=
 ⟨h.nodes, h.kids, h.apart.imp fun hh i j hi hj => by have := hh i j hi hj; omega⟩
theorem OwnN.nil (B : Nat) (w : World) : OwnN B w none 0 [] := ⟨World.ownsRow_nil _ _ _ _, by simp, List.Pairwise.nil⟩
theorem OwnN.chg {B : Nat} {w w' : World} {S : List Nat} {b2 : Option Addr} {d2 : Nat} {L : List Cp} (h : OwnN B w b2 d2 L) (hc : Chg S w w') (hS : ∀ k ∈ S, NotRow w 65 k ∧ NotRow w 3 k) : OwnN B w' b2 d2 L :=
 ⟨hc.rowOf h.nodes (fun k hk => (hS k hk).1), fun p hp => hc.rowOf (h.kids p hp) (fun k hk => (hS k hk).2), h.apart⟩
theorem OwnN.chg0 {B : Nat} {w w' : World} {b2 : Option Addr} {d2 : Nat} {L : List Cp} (h : OwnN B w b2 d2 L) (hc : Chg [] w w') : OwnN B w' b2 d2 L := h.chg hc (by simp)
theorem OwnN.below {B B' : Nat} {w : World} {b2 : Option Addr} {d2 : Nat} {L : List Cp} (h : OwnN B w b2 d2 L) (hB : B' ≤ B) : OwnN B' w b2 d2 L :=
 ⟨row_base h.nodes hB, fun p hp => row_base (h.kids p hp) hB, h.apart⟩
theorem OwnN.read {B : Nat} {w : World} {b2 : Option Addr} {d2 : Nat} {L : List Cp} (h : OwnN B w b2 d2 L) : Nodes w b2 (L.map (·.1)) ∧ L.length ≤ d2 ∧ d2 ≤ maxLen := by
 obtain ⟨m1, m2, m3, m4⟩ := nodes_row (row_base h.nodes (Nat.zero_le _)) (fun p hp => (h.kids p hp).own)
 exact ⟨m1, m3, m4⟩
/-- How a node's cells read. -/
theorem OwnN.at {B : Nat} {w : World} {b2 : Option Addr} {d2 : Nat} {L : List Cp} (h : OwnN B w b2 d2 L) {i : Nat} (hi : i < L.length) :
  ∃ G, b2 = some ⟨G, 0, none⟩ ∧ B ≤ G ∧ (∃ cur, w.heap[G]? = some (.cells cur 65 (0, 0))) ∧ (∀ r, r < 9 → w.cell? ⟨G, i * 9 + r, none⟩ = L[i].cells[r]?) ∧ ∀ o, w.frozen? ⟨G, o, none⟩ = false := by
 rcases h.nodes.2 with ⟨h0, h1⟩ | ⟨g, cap, cur, h0, hb, hg, hn, hc, hs, ht⟩
 ·omega
 ·cases h0
  refine ⟨g, rfl, hb, ⟨cur, hg⟩, fun r hr => ?_, fun o => free_of_cells hg o⟩
  have h1 := flat_get Cp.cells 9 cp_len L i r hr
  rw [List.getElem?_eq_getElem hi, Option.bind_some] at h1
  have h3 : L[i].cells[r]? = some (L[i].cells[r]'(by rw [cp_len]; exact hr)) := List.getElem?_eq_getElem _
  rw [cell_of_cells hg, h3]
  have h2 : (nodesCells L)[i * 9 + r]? = some (L[i].cells[r]'(by rw [cp_len]; exact hr)) := h1.trans h3
  rw [← ht, List.getElem?_take] at h2
  split at h2
  ·simpa using h2
  ·cases h2
def Nd.setKid (x : Nd) (k : Nat) (v : Int) : Nd := { x with kids := x.kids.set k v }
def Cp.setKid (p : Cp) (k : Nat) (v : Int) : Cp := (p.1.setKid k v, p.2.1, p.2.2)
theorem setKid_cells (p : Cp) (k : Nat) (v : Int) : (p.setKid k v).cells = p.cells := by
 simp only [Cp.cells, Cp.setKid, Nd.setKid, List.length_set]; rfl
theorem setKid_own (p : Cp) (k : Nat) (v : Int) : (p.setKid k v).own = p.own := by simp only [Cp.own, Cp.setKid, Nd.setKid, List.length_set]
theorem cells_set' {L : List Cp} {i : Nat} (hi : i < L.length) {q : Cp} (h : q.cells = L[i].cells) : nodesCells (L.set i q) = nodesCells L := by
 rw [nodesCells, nodesCells, List.flatMap_def, List.flatMap_def, List.map_set, h]
 congr 1
 apply List.ext_getElem
 ·simp
 ·intro j h1 h2
  rw [List.getElem_set]
  split
  ·rename_i hij; subst hij; simp
  ·rfl
theorem ints_take {zs : List Int} {cur : Array Value} (h : cur.toList.take zs.length = zs.map (Value.int .i64)) {k : Nat} (hk : k < zs.length) (v : Int) (hc : zs.length ≤ cur.size) :
  (cur.setIfInBounds k (.int .i64 v)).toList.take zs.length = (zs.set k v).map (Value.int .i64) := by
 rw [Array.toList_setIfInBounds, List.take_set, h, List.map_set]
/-- A kid is written. -/
theorem OwnN.kidPut {B : Nat} {w : World} {b2 : Option Addr} {d2 : Nat} {L : List Cp} (h : OwnN B w b2 d2 L) {i : Nat} (hi : i < L.length) {k : Nat} (hk : k < L[i].1.kids.length) :
  ∃ K, L[i].2.1 = some ⟨K, 0, none⟩ ∧ B ≤ K ∧ w.cell? ⟨K, k, none⟩ = some (.int .i64 L[i].1.kids[k]) ∧ w.frozen? ⟨K, k, none⟩ = false ∧
   ∀ v, OwnN B (w.setCell ⟨K, k, none⟩ (.int .i64 v)) b2 d2 (L.set i (L[i].setKid k v)) ∧ Chg [K] w (w.setCell ⟨K, k, none⟩ (.int .i64 v)) := by
 have hik := h.kids _ (List.getElem_mem hi)
 rcases hik.2 with ⟨h0, h1⟩ | ⟨K, cap, cur, h0, hb, hg, hn, hcm, hcs, ht⟩
 ·omega
 have hK : L[i].2.1 = some ⟨K, 0, none⟩ := by injection h0
 have hcap : cap = L[i].2.2 := by injection h0 with _ _ h0; exact h0.symm
 subst hcap
 have hKo : L[i].own = some K := by simp [Cp.own, hK, Value.ownBlock]
 refine ⟨K, hK, hb, ?_, free_of_cells hg _, fun v => ?_⟩
 ·rw [cell_of_cells hg]
  have h1 : (L[i].1.kids.map (Value.int .i64))[k]? = some (.int .i64 L[i].1.kids[k]) := by simp [hk]
  rw [← ht, List.getElem?_take] at h1
  split at h1
  ·simpa using h1
  ·cases h1
 have hc := (Chg.refl [K] w).setCell (p := ⟨K, k, none⟩) (.inl (by simp)) (.int .i64 v)
 have hN : ∀ e, 3 ≠ e → ∀ k ∈ [K], NotRow w e k := fun e he k hk => by simp only [List.mem_singleton] at hk; subst hk; exact .of_cells hg he
 have hap : ∀ a b (ha : a < L.length) (hb : b < L.length), a < b → ∀ i j, L[a].own = some i → L[b].own = some j → i ≠ j := fun a b ha hb hab => List.pairwise_iff_getElem.1 h.apart a b ha hb hab
 refine ⟨⟨?_, ?_, ?_⟩, hc⟩
 ·rw [List.length_set, cells_set' hi (setKid_cells _ _ _)]
  exact hc.rowOf h.nodes (hN _ (by decide))
 ·intro p hp
  obtain ⟨j, hj, rfl⟩ := List.mem_iff_getElem.1 hp
  have hj' : j < L.length := by simpa using hj
  rw [List.getElem_set]
  split
  ·rename_i hij
   subst hij
   refine ⟨by simp [Cp.setKid, Nd.setKid], .inr ⟨K, L[i].2.2, _, ?_, hb, heap_setCell_same hg _ _, ?_, hcm, by simpa using hcs, ?_⟩⟩
   ·simp [Cp.setKid, Nd.setKid, hK]
   ·simp only [Cp.setKid, Nd.setKid, List.length_set]; exact hn
   ·simp only [Cp.setKid, Nd.setKid, List.length_set, Nat.mul_one]
    exact ints_take (by simpa using ht) hk v (by omega)
  ·rename_i hij
   refine hc.row (h.kids _ (List.getElem_mem hj')) (fun k hk hm => ?_)
   simp only [List.mem_singleton] at hm
   subst hm
   rcases Nat.lt_or_gt_of_ne hij with hlt | hlt
   ·exact hap i j hi hj' hlt _ _ hKo hk rfl
   ·exact hap j i hj' hi hlt _ _ hk hKo rfl
 ·rw [List.pairwise_iff_getElem]
  intro a b ha hb hab x y hx hy
  have ha' : a < L.length := by simpa using ha
  have hb' : b < L.length := by simpa using hb
  have key : ∀ c (hc : c < L.length) (hc' : c < (L.set i (L[i].setKid k v)).length), ((L.set i (L[i].setKid k v))[c]).own = L[c].own := by
   intro c hc hc'
   rw [List.getElem_set]
   split
   ·rename_i hic; subst hic; exact setKid_own _ _ _
   ·rfl
  rw [key a ha' ha] at hx
  rw [key b hb' hb] at hy
  exact hap a b ha' hb' hab x y hx hy
/-- Rows are joined: nodes that lie beyond all that there was. -/
theorem OwnN.join {B : Nat} {w w1 : World} {b2 b2' : Option Addr} {d2 d2' : Nat} {L M : List Cp} (h : OwnN B w b2 d2 L) (hM : ∀ p ∈ M, FreshInts B w p.2.1 p.2.2 p.1.kids) (ha : M.Pairwise fun q p => ∀ i j, q.own = some i → p.own = some j → i ≠ j)
  (hx : ∀ q ∈ L, ∀ p ∈ M, ∀ i j, q.own = some i → p.own = some j → i ≠ j)
  (hr : w1.ownsRow B 65 9 (.slice b2' (L.length + M.length) d2') (L.length + M.length) (nodesCells L ++ nodesCells M)) (hg : w.grownBy w1 (Value.slice b2 L.length d2).ownBlock) : OwnN B w1 b2' d2' (L ++ M) := by
 have hc : Chg (Value.slice b2 L.length d2).ownBlock.toList w w1 := (Chg.refl _ w).grown hg (fun k hk => .inl (by rw [hk]; simp))
 have hS : ∀ e, 65 ≠ e → ∀ k ∈ (Value.slice b2 L.length d2).ownBlock.toList, NotRow w e k := by
  intro e he k hk
  simp only [Option.mem_toList] at hk
  exact row_notrow h.nodes hk he
 refine ⟨?_, ?_, ?_⟩
 ·have : nodesCells (L ++ M) = nodesCells L ++ nodesCells M := by rw [nodesCells, nodesCells, nodesCells, List.flatMap_append]
  rw [this, List.length_append]; exact hr
 ·intro q hq
  rcases List.mem_append.1 hq with hq | hq
  ·exact hc.rowOf (h.kids q hq) (hS _ (by decide))
  ·exact hc.rowOf (hM q hq) (hS _ (by decide))
 ·rw [List.pairwise_append]
  exact ⟨h.apart, ha, hx⟩
def Nd.addKid (x : Nd) (v : Int) : Nd := { x with kids := x.kids ++ [v] }
theorem addKid_len (x : Nd) (v : Int) : (x.addKid v).kids.length = x.kids.length + 1 := by simp [Nd.addKid]
/-- The first node gets a kid more. -/
theorem OwnN.more {B : Nat} {w w1 : World} {b2 : Option Addr} {d2 : Nat} {p : Cp} {L : List Cp} {v : Int} {a' : Option Addr} {c' G : Nat} (h : OwnN B w b2 d2 (p :: L)) (hB : B ≤ w.heap.size) (hG : b2 = some ⟨G, 0, none⟩)
  (hr : w1.ownsRow B 3 1 (.slice a' (p.1.kids.length + 1) c') (p.1.kids.length + 1) (p.1.kids.map (Value.int .i64) ++ [.int .i64 v])) (hg : w.grownBy w1 p.own)
  (hb : (Value.slice a' (p.1.kids.length + 1) c').ownBlock = p.own ∨ (Value.slice a' (p.1.kids.length + 1) c').ownBlock = some w.heap.size) :
  OwnN B (w1.setCell ⟨G, 8, none⟩ (.slice a' (p.1.kids.length + 1) c')) b2 d2 ((p.1.addKid v, a', c') :: L) ∧ Chg (p.own.toList ++ [G]) w (w1.setCell ⟨G, 8, none⟩ (.slice a' (p.1.kids.length + 1) c')) := by
 subst hG
 have hc1 : Chg p.own.toList w w1 := (Chg.refl _ w).grown hg (fun k hk => .inl (by rw [hk]; simp))
 have hc2 := (Chg.refl [G] w1).setCell (p := ⟨G, 8, none⟩) (.inl (by simp)) (.slice a' (p.1.kids.length + 1) c')
 have hpk := h.kids p (by simp)
 obtain ⟨hap1, hap2⟩ := List.pairwise_cons.1 h.apart
 have hN1 : ∀ k ∈ p.own.toList, NotRow w 65 k := fun k hk => by simp only [Option.mem_toList] at hk; exact row_notrow hpk hk (by decide)
 have hrow1 := hc1.rowOf h.nodes hN1
 have hL1 : ∀ q ∈ L, FreshInts B w1 q.2.1 q.2.2 q.1.kids := fun q hq => hc1.row (h.kids q (by simp [hq])) (fun k hk hm => by
  simp only [Option.mem_toList] at hm
  exact hap1 q hq k k hm hk rfl)
 rcases hrow1.2 with ⟨h0, h1⟩ | ⟨g, cap, cur, h0, hbg, hg1, hn, hcm, hcs, ht⟩
 ·cases h0
 cases h0
 have hN2 : ∀ k ∈ [G], NotRow w1 3 k := fun k hk => by simp only [List.mem_singleton] at hk; subst hk; exact .of_cells hg1 (by decide)
 have hG8 : G < w1.heap.size := lt_of_block hg1
 have hown' : ∀ k, (Value.slice a' (p.1.kids.length + 1) c').ownBlock = some k → k ≠ G := by
  intro k hk e
  subst e
  have h3 := row_beyond hr hk
  obtain ⟨_, _, cur3, h3⟩ := h3
  rw [hg1] at h3
  cases h3
 refine ⟨⟨⟨by rw [nodesCells, flat_len Cp.cells 9 cp_len], .inr ⟨G, d2, _, rfl, hbg, heap_setCell_same hg1 _ _, by simpa using hn, hcm, by simpa using hcs, ?_⟩⟩, ?_, ?_⟩, ?_⟩
 ·have hp9 : 9 ≤ cur.toList.length := by
   have := congrArg List.length ht
   rw [List.length_take] at this
   have h2 : (nodesCells (p :: L)).length = (p :: L).length * 9 := flat_len Cp.cells 9 cp_len _
   rw [h2] at this
   simp only [List.length_cons] at this ⊢
   omega
  rw [Array.toList_setIfInBounds, List.take_set]
  show (List.take ((p :: L).length * 9) cur.toList).set 8 _ = _
  rw [ht]
  have e1 : nodesCells (p :: L) = p.cells ++ nodesCells L := by simp [nodesCells]
  rw [e1, List.set_append_left _ _ (by rw [cp_len]; decide)]
  have e2 : nodesCells ((p.1.addKid v, a', c') :: L) = Cp.cells (p.1.addKid v, a', c') ++ nodesCells L := by simp [nodesCells]
  rw [e2]
  congr 1
  simp [Cp.cells, Nd.cells, addKid_len]
  simp [Nd.addKid]
 ·intro q hq
  rcases List.mem_cons.1 hq with rfl | hq
  ·have hr' : FreshInts B w1 a' c' (p.1.addKid v).kids := by simpa [FreshInts, Nd.addKid] using hr
   refine hc2.row hr' (fun k hk hm => ?_)
   simp only [List.mem_singleton] at hm
   rw [addKid_len] at hk
   exact hown' k hk hm
  ·exact hc2.rowOf (hL1 q hq) hN2
 ·rw [List.pairwise_cons]
  refine ⟨fun q hq i j hi hj e => ?_, hap2⟩
  subst e
  have hi' : (Value.slice a' (p.1.kids.length + 1) c').ownBlock = some i := by simpa [Cp.own, addKid_len] using hi
  rcases hb with hb | hb
  ·exact hap1 q hq i i (hb ▸ hi') hj rfl
  ·rw [hb] at hi'
   cases hi'
   have := (row_beyond (h.kids q (by simp [hq])) hj).2.1
   omega
 ·exact (hc1.mono (T := p.own.toList ++ [G]) (fun j hj => .inl (by simp [hj]))).trans hc2 (fun j hj => .inl (by simp at hj; simp [hj]))
end Go.Proofs.YtlklmpjakeedcaaGreatDoor
set_option linter.unusedVariables false
set_option linter.unusedSimpArgs false
namespace Go.Proofs.YtlklmpjakeedcaaGreatDoor
open Go.RowKit Go.MapKept Go.Shelf

def Nd.part (x : Nd) (o : Int) (k : Nat) : Nd := { x with kids := (x.kids.take k).map (· + o) ++ x.kids.drop k }
theorem part_zero (x : Nd) (o : Int) : x.part o 0 = x := by simp [Nd.part]
theorem part_end (x : Nd) (o : Int) {k : Nat} (h : x.kids.length ≤ k) : x.part o k = x.shift o := by simp [Nd.part, Nd.shift, List.take_of_length_le h, List.drop_eq_nil_of_le h]
theorem part_len (x : Nd) (o : Int) (k : Nat) : (x.part o k).kids.length = x.kids.length := by simp [Nd.part]; omega
theorem part_at (x : Nd) (o : Int) {k : Nat} (hk : k < x.kids.length) (h : k < (x.part o k).kids.length) : (x.part o k).kids[k] = x.kids[k] := by
 simp only [Nd.part]
 rw [List.getElem_append_right (by simp; omega)]
 simp
 congr 1
 omega
theorem part_succ (x : Nd) (o : Int) {k : Nat} (hk : k < x.kids.length) : (x.part o k).setKid k (x.kids[k] + o) = x.part o (k + 1) := by
 simp only [Nd.part, Nd.setKid]
 congr 1
 apply List.ext_getElem?
 intro j
 rw [List.getElem?_set, List.getElem?_append, List.getElem?_append]
 simp only [List.length_append, List.length_map, List.length_take, List.length_drop, List.getElem?_map, List.getElem?_take, List.getElem?_drop]
 by_cases h1 : k = j
 ·subst h1
  rw [if_pos rfl, if_pos (by omega), if_pos (by omega), if_pos (by omega), List.getElem?_eq_getElem hk]
  rfl
 ·rw [if_neg h1]
  by_cases h2 : j < k
  ·rw [if_pos (by omega), if_pos (by omega), if_pos (by omega), if_pos (by omega)]
  ·rw [if_neg (by omega), if_neg (by omega)]
   congr 1
   omega
/-- Nodes ahead of i are moved, the i-th one's first k kids. -/
def MovedTo (ns : List Nd) (o : Int) (i k : Nat) (L : List Cp) : Prop :=
 L.length = ns.length ∧ ∀ a (h : a < L.length) (h' : a < ns.length), L[a].1 = if a < i then ns[a].shift o else if a = i then ns[a].part o k else ns[a]
theorem movedTo_start {ns : List Nd} {o : Int} {L : List Cp} (h : L.map (·.1) = ns) : MovedTo ns o 0 0 L := by
 refine ⟨by rw [← h]; simp, fun a h1 h2 => ?_⟩
 have : L[a].1 = ns[a] := by
  have h3 : (L.map (·.1))[a]'(by simpa using h1) = L[a].1 := by simp
  rw [← h3]
  simp only [h]
 rw [this, if_neg (by omega)]
 split
 ·rw [part_zero]
 ·rfl
theorem movedTo_next {ns : List Nd} {o : Int} {i k : Nat} {L : List Cp} (hi : i < ns.length) (h : MovedTo ns o i k L) (hk : ns[i].kids.length ≤ k) : MovedTo ns o (i + 1) 0 L := by
 refine ⟨h.1, fun a h1 h2 => ?_⟩
 rw [h.2 a h1 h2]
 by_cases h3 : a < i
 ·rw [if_pos h3, if_pos (by omega)]
 ·rw [if_neg h3]
  by_cases h4 : a = i
  ·subst h4
   rw [if_pos rfl, if_pos (by omega), part_end _ _ hk]
  ·rw [if_neg h4, if_neg (by omega)]
   split
   ·rw [part_zero]
   ·rfl
theorem movedTo_kid {ns : List Nd} {o : Int} {i k : Nat} {L : List Cp} (hi : i < ns.length) (hL : i < L.length) (h : MovedTo ns o i k L) (hk : k < ns[i].kids.length) : MovedTo ns o i (k + 1) (L.set i (L[i].setKid k (ns[i].kids[k] + o))) := by
 refine ⟨by rw [List.length_set]; exact h.1, fun a h1 h2 => ?_⟩
 rw [List.getElem_set]
 by_cases h3 : i = a
 ·subst h3
  rw [if_pos rfl, if_neg (by omega), if_pos rfl]
  show L[i].1.setKid k _ = _
  have := h.2 i hL hi
  rw [if_neg (by omega), if_pos rfl] at this
  rw [this]
  exact part_succ _ _ hk
 ·have h1' : a < L.length := by simpa using h1
  rw [if_neg h3, h.2 a h1' h2]
  by_cases h4 : a < i
  ·rw [if_pos h4, if_pos h4]
  ·rw [if_neg h4, if_neg h4, if_neg (by omega), if_neg (by omega)]
theorem movedTo_end {ns : List Nd} {o : Int} {k : Nat} {L : List Cp} (h : MovedTo ns o ns.length k L) : L.map (·.1) = movedL ns o := by
 apply List.ext_getElem
 ·simp [movedL, h.1]
 ·intro a h1 h2
  have h1' : a < L.length := by simpa using h1
  have := h.2 a h1' (by have := h.1; omega)
  rw [if_pos (by have := h.1; omega)] at this
  simp [movedL, this]
theorem movedTo_now {ns : List Nd} {o : Int} {i k : Nat} {L : List Cp} (hi : i < ns.length) (hL : i < L.length) (h : MovedTo ns o i k L) : L[i].1 = ns[i].part o k := by
 have := h.2 i hL hi
 rw [if_neg (by omega), if_pos rfl] at this
 exact this

/-- Nodes in rows of their own. -/
def NewRows (w : World) (ns : List Nd) (e : Ending) (w' : World) : Prop :=
 ∃ a c L, e = .returned (.slice a ns.length c) ∧ L.map (·.1) = ns ∧ OwnN w.heap.size w' a c L ∧ Chg [] w w'

set_option maxRecDepth 100000 in
set_option maxHeartbeats 4000000 in
theorem moved_any (w : World) (a : Option Addr) (n c : Nat) (ns : List Nd) (o : Int) (hn : n = ns.length) (hs : n ≤ 3000) (hr : Nodes w a ns) (hk : ∀ x ∈ ns, x.kids.length ≤ 3000) (ho : ∀ x ∈ ns, ∀ z ∈ x.kids, I64 (z + o)) :
  Calls Tryz.prog 55 #[.slice a n c, .int .i64 o] w (NewRows w (movedL ns o)) := by
 have H := Lib.hid (And.intro hn (And.intro hr (And.intro hk ho)))
 clear hn hr hk ho
 go_enter Tryz.func55, Tryz.ntmps55
 go_wp2_with fail
 refine (CopyNodesF_any w a n c ns H.out.1 hs H.out.2.1 H.out.2.2.1).mono ?_
 rintro e w1 ⟨b, d, L1, rfl, hL1, hown1, hc1⟩
 obtain ⟨m, hm⟩ : ∃ m, m = ns.length := ⟨_, rfl⟩
 rw [← hm]
 have H1 := Lib.hid (And.intro hL1 (And.intro hown1.ownN (And.intro hc1 hm)))
 have hm3 : m ≤ 3000 := by have := H.out.1; omega
 clear hL1 hown1 hc1 hm
 go_wp2_with fail
 go_loopg [6] m (fun dd iv wr => ∃ i : Nat, dd = m - i ∧ i ≤ m ∧ iv = .int .i64 i ∧ Hid (∃ L, MovedTo ns o i 0 L ∧ OwnN w.heap.size wr b d L ∧ Chg [] w wr))
 case atStart => exact ⟨0, rfl, Nat.zero_le _, rfl, Lib.hid ⟨L1, movedTo_start H1.out.1, H1.out.2.1, H1.out.2.2.1⟩⟩
 case round =>
  obtain ⟨i, rfl, hi, rfl, hin⟩ := hrel
  obtain ⟨wq, rfl⟩ : ∃ wq, wq = wr := ⟨_, rfl⟩
  by_cases hlt : i < m
  ·have hil : i < ns.length := by have := H1.out.2.2.2; omega
   obtain ⟨kl, hkl⟩ : ∃ kl, kl = ns[i].kids.length := ⟨_, rfl⟩
   have hk3 : kl ≤ 3000 := by rw [hkl]; exact H.out.2.2.1 _ (List.getElem_mem hil)
   have HK := Lib.hid (⟨hil, hkl⟩ : ∃ h : i < ns.length, kl = ns[i].kids.length)
   clear hil hkl
   go_wp2_with fail
   go_loopg [7] kl (fun dd iv wr => ∃ k : Nat, dd = kl - k ∧ k ≤ kl ∧ iv = .int .i64 k ∧ Hid (∃ L, MovedTo ns o i k L ∧ OwnN w.heap.size wr b d L ∧ Chg [] w wr))
   case atStart => exact ⟨0, rfl, Nat.zero_le _, rfl, hin⟩
   case round =>
    obtain ⟨k, rfl, hkk, rfl, hin2⟩ := hrel
    obtain ⟨wr, rfl⟩ : ∃ wz, wz = wr := ⟨_, rfl⟩
    obtain ⟨L, hmv, hown, hcw⟩ := hin2.out
    obtain ⟨hil, hkq⟩ := HK.out
    have hiL : i < L.length := by have := hmv.1; omega
    have hnow := movedTo_now hil hiL hmv
    have hlen : L[i].1.kids.length = kl := by rw [hnow, part_len, ← hkq]
    obtain ⟨G, rfl, hBG, _, hcells, _⟩ := hown.at hiL
    have h8 : wr.cell? ⟨G, i * 9 + 8, none⟩ = some (.slice L[i].2.1 kl L[i].2.2) := by
     rw [hcells 8 (by decide), ← hlen]; rfl
    have hG := World.block_lt_of_cell? _ _ h8
    simp only at hG
    by_cases hkl : k < kl
    ·have hkx : k < ns[i].kids.length := by omega
     obtain ⟨K, hK, hBK, hck, hfk, hput⟩ := hown.kidPut hiL (k := k) (by rw [hlen]; exact hkl)
     have hv : L[i].1.kids[k]'(by rw [hlen]; exact hkl) = ns[i].kids[k] := by
      have := part_at ns[i] o hkx (by rw [part_len]; exact hkx)
      simp only [hnow]
      exact this
     rw [hv] at hck
     rw [hK] at h8
     obtain ⟨z, hz⟩ : ∃ z, z = ns[i].kids[k] := ⟨_, rfl⟩
     have hzo : I64 (z + o) := by rw [hz]; exact H.out.2.2.2 _ (List.getElem_mem hil) _ (List.getElem_mem hkx)
     obtain ⟨hz1, hz2⟩ := hzo
     rw [← hz] at hck
     have hput2 : ∃ L', MovedTo ns o i (k + 1) L' ∧ OwnN w.heap.size (wr.setCell ⟨K, k, none⟩ (.int .i64 (z + o))) (some ⟨G, 0, none⟩) d L' ∧ Chg [] w (wr.setCell ⟨K, k, none⟩ (.int .i64 (z + o))) := by
      obtain ⟨p1, p2⟩ := hput (z + o)
      refine ⟨_, ?_, p1, hcw.trans p2 (fun j hj => .inr (by simp at hj; omega))⟩
      rw [hz]
      exact movedTo_kid hil hiL hmv hkx
     have HR := Lib.hid hput2
     obtain ⟨lc, hlc⟩ : ∃ lc, lc = L[i].2.2 := ⟨_, rfl⟩
     rw [← hlc] at h8
     clear hmv hcw hput hput2 hz hkq hkx hiL hnow hlen hcells hv hK hlc hown hBK hil
     go_wp2_with fail
     go_region
     all_goals go_wp2_with fail
     all_goals go_roundg (kl - (k + 1))
     case measure => omega
     case rel =>
      obtain ⟨L', q1, q2, q3⟩ := HR.out
      exact ⟨k + 1, rfl, by omega, by go_num, Lib.hid ⟨L', q1, q2.chg0 ((Chg.refl [] _).drew), q3.drew⟩⟩
    ·obtain rfl : k = kl := by omega
     have HR := Lib.hid (And.intro hmv (And.intro hcw hown))
     obtain ⟨lc, hlc⟩ : ∃ lc, lc = L[i].2.2 := ⟨_, rfl⟩
     obtain ⟨la, hla⟩ : ∃ la, la = L[i].2.1 := ⟨_, rfl⟩
     rw [← hlc, ← hla] at h8
     clear hmv hcw hnow hlen hcells hlc hla hown hkq hil hiL
     go_wp2_with fail
     go_roundg (m - (i + 1))
     case measure => omega
     case rel =>
      obtain ⟨hmv, hcw, hown⟩ := HR.out
      exact ⟨i + 1, rfl, by omega, by go_num, Lib.hid ⟨L, movedTo_next (HK.out.elim fun h _ => h) hmv (by obtain ⟨_, h⟩ := HK.out; omega), hown, hcw⟩⟩
  ·obtain rfl : i = m := by omega
   go_wp2_with fail
   go_ret
   obtain ⟨L, hmv, hown, hcw⟩ := hin.out
   rw [H1.out.2.2.2] at hmv
   refine ⟨b, d, L, ?_, movedTo_end hmv, hown, hcw⟩
   rw [movedL_len, ← H1.out.2.2.2]; rfl
end Go.Proofs.YtlklmpjakeedcaaGreatDoor
set_option linter.unusedVariables false
set_option linter.unusedSimpArgs false
namespace Go.Proofs.YtlklmpjakeedcaaGreatDoor
open Go.RowKit Go.MapKept Go.Shelf

/-- A body that is told. -/
def Body (w : World) (ns : List Nd) (e : Ending) (w' : World) : Prop := ∃ a c, e = .returned (.slice a ns.length c) ∧ Nodes w' a ns ∧ ns.length ≤ c ∧ c ≤ maxLen ∧ Chg [] w w'
theorem NewRows.body {w : World} {ns : List Nd} {e : Ending} {w' : World} (h : NewRows w ns e w') : Body w ns e w' := by
 obtain ⟨a, c, L, h1, h2, h3, h4⟩ := h
 obtain ⟨q1, q2, q3⟩ := h3.read
 rw [h2] at q1
 have hl : L.length = ns.length := by rw [← h2]; simp
 rw [hl] at q2
 exact ⟨a, c, h1, q1, q2, q3, h4⟩
theorem one_node {w : World} {b : Nat} {x : Nd} (hx : x.kids = []) (h : w.heap[b]? = some (.cells (x.cells none 0 0) 65 (0, 0))) : Nodes w (some ⟨b, 0, none⟩) [x] := by
 intro i hi
 have hi0 : i = 0 := by simpa using hi
 subst hi0
 unfold Nd.cells at h
 obtain ⟨x0, x1, x2, x3, x4, x5, x6, x7, x8⟩ := cells9 h
 exact ⟨b, 0, none, 0, 0, rfl, by
  simp only [List.getElem_cons_zero]
  exact ⟨x0, x1, x2, x3, x4, x5, x6, x7, x8, by simp [hx], Nat.le_refl _, Nat.zero_le _, by rw [hx]; exact Ints.nil _ _⟩⟩
def wordN (s : ByteArray) : Nd := { bareN 4 with s := s }
def callN (r l : Int) : Nd := { bareN 5 with r := r, l := l }

set_option maxRecDepth 100000 in
set_option maxHeartbeats 1000000 in
theorem Word_any (w : World) (s : ByteArray) : Calls Tryz.prog 20 #[.string s] w (Body w [wordN s]) := by
 go_enter Tryz.func20, Tryz.ntmps20
 go_wp2_with fail
 go_ret
 exact ⟨some ⟨w.heap.size, 0, none⟩, 1, rfl, one_node rfl (heap_alloc_same w _), Nat.le_refl _, by decide, (Chg.refl _ _).alloc _⟩
set_option maxRecDepth 100000 in
set_option maxHeartbeats 1000000 in
theorem CallB_any (w : World) (r l : Int) : Calls Tryz.prog 22 #[.int .i64 r, .int .i64 l] w (Body w [callN r l]) := by
 go_enter Tryz.func22, Tryz.ntmps22
 go_wp2_with fail
 go_ret
 exact ⟨some ⟨w.heap.size, 0, none⟩, 1, rfl, one_node rfl (heap_alloc_same w _), Nat.le_refl _, by decide, (Chg.refl _ _).alloc _⟩

/-- Bodies in a list. -/
def Bodies (w : World) (a : Option Addr) (KL : List (List Nd)) : Prop :=
 ∀ i (h : i < KL.length), ∃ b o ak ck, a = some ⟨b, o, none⟩ ∧ w.cell? ⟨b, o + i, none⟩ = some (.slice ak KL[i].length ck) ∧ Nodes w ak KL[i]
def sumL (KL : List (List Nd)) : Nat := (KL.map List.length).sum
theorem gramN_snoc : ∀ (A : List (List Nd)) (b : List Nd) (o : Nat), gramN (A ++ [b]) o = gramN A o ++ movedL b (o + sumL A : Nat) := by
 intro A
 induction A with
 | nil => intro b o; simp [gramN, sumL]
 | cons x A ih =>
  intro b o
  simp only [List.cons_append, gramN, ih, List.append_assoc, sumL, List.map_cons, List.sum_cons]
  rw [Nat.add_assoc]
theorem gramO_snoc : ∀ (A : List (List Nd)) (b : List Nd) (o : Nat), gramO (A ++ [b]) o = gramO A o ++ [((o + sumL A : Nat) : Int)] := by
 intro A
 induction A with
 | nil => intro b o; simp [gramO, sumL]
 | cons x A ih =>
  intro b o
  simp only [List.cons_append, gramO, ih, sumL, List.map_cons, List.sum_cons]
  rw [Nat.add_assoc]
theorem gramN_sum (A : List (List Nd)) (o : Nat) : (gramN A o).length = sumL A := gramN_len A o
theorem sumL_snoc (A : List (List Nd)) (b : List Nd) : sumL (A ++ [b]) = sumL A + b.length := by simp [sumL]
theorem sumL_take (KL : List (List Nd)) (i : Nat) : sumL (KL.take i) ≤ sumL KL := by
 have h : sumL (KL.take i ++ KL.drop i) = sumL (KL.take i) + sumL (KL.drop i) := by
  simp only [sumL, List.map_append, List.sum_append]
 rw [List.take_append_drop] at h
 omega
theorem sumL_next (KL : List (List Nd)) {i : Nat} (hi : i < KL.length) : sumL (KL.take (i + 1)) = sumL (KL.take i) + KL[i].length := by
 rw [List.take_succ_eq_append_getElem hi, sumL_snoc]
theorem cells_one (L : List Cp) : ∀ u ∈ nodesCells L, u.oneCell' = true := by
 intro u hu
 simp only [nodesCells, List.mem_flatMap] at hu
 obtain ⟨p, _, hp⟩ := hu
 simp only [Cp.cells, Nd.cells, List.mem_cons, List.not_mem_nil, or_false] at hp
 rcases hp with rfl | rfl | rfl | rfl | rfl | rfl | rfl | rfl | rfl <;> rfl
theorem nodesCells_len (L : List Cp) : (nodesCells L).length = L.length * 9 := flat_len Cp.cells 9 cp_len L
theorem OwnN.src {B : Nat} {w : World} {b2 : Option Addr} {d2 : Nat} {L : List Cp} (h : OwnN B w b2 d2 L) (hL : L ≠ []) :
  ∃ G, b2 = some ⟨G, 0, none⟩ ∧ B ≤ G ∧ ∀ j u, (nodesCells L)[j]? = some u → w.cell? ((⟨G, 0, none⟩ : Addr).add j) = some u := by
 rcases h.nodes.2 with ⟨h0, h1⟩ | ⟨g, cap, cur, h0, hb, hg, hn, hc, hs, ht⟩
 ·exact absurd (List.eq_nil_of_length_eq_zero h1) hL
 ·cases h0
  refine ⟨g, rfl, hb, fun j u hu => cells_at hg j u ?_⟩
  rw [← ht, List.getElem?_take] at hu
  split at hu
  ·exact hu
  ·cases hu
/-- A node of a kind over bodies. -/
def ofL (k : Int) (KL : List (List Nd)) : List Nd := { bareN k with kids := gramO KL 1 } :: gramN KL 1
theorem ofL_len (k : Int) (KL : List (List Nd)) : (ofL k KL).length = sumL KL + 1 := by simp [ofL, gramN_sum]
/-- Small: each kid's number, each body's length. -/
structure Small (ns : List Nd) : Prop where
 len : ns.length ≤ 3000
 one : ns ≠ []
 kids : ∀ x ∈ ns, x.kids.length ≤ 3000 ∧ ∀ z ∈ x.kids, -100000 ≤ z ∧ z ≤ 100000

theorem of_more {w wq w5 : World} {G d pk pd c5 : Nat} {pa a5 : Option Addr} {p : Cp} {L : List Cp} {v : Int} {o : Obj} (h2 : OwnN w.heap.size wq (some ⟨G, 0, none⟩) d (p :: L)) (h3 : Chg [] w wq) (hBG : w.heap.size ≤ G) (hpk : pk = p.1.kids.length) (hpa : pa = p.2.1) (hpd : pd = p.2.2)
  (hr5 : w5.ownsRow w.heap.size 3 1 (.slice a5 (pk + 1) c5) (pk + 1) (p.1.kids.map (Value.int .i64) ++ [.int .i64 v])) (hg5 : (wq.alloc o).grownBy w5 (Value.slice pa pk pd).ownBlock)
  (hb5 : (Value.slice a5 (pk + 1) c5).ownBlock = (Value.slice pa pk pd).ownBlock ∨ (Value.slice a5 (pk + 1) c5).ownBlock = some (wq.alloc o).heap.size) :
  OwnN w.heap.size (w5.setCell ⟨G, 8, none⟩ (.slice a5 (pk + 1) c5)) (some ⟨G, 0, none⟩) d ((p.1.addKid v, a5, c5) :: L) ∧ Chg [] w (w5.setCell ⟨G, 8, none⟩ (.slice a5 (pk + 1) c5)) := by
 subst hpk hpa hpd
 have hca := (Chg.refl [] wq).alloc o
 obtain ⟨q1, q2⟩ := (h2.chg0 hca).more (h3.tr hca).size rfl hr5 hg5 hb5
 refine ⟨q1, (h3.tr hca).trans q2 (fun j hj => .inr ?_)⟩
 simp only [List.mem_append, Option.mem_toList, List.mem_singleton] at hj
 rcases hj with hj | rfl
 ·exact (row_beyond (h2.kids p (by simp)) hj).1
 ·exact hBG

set_option maxRecDepth 100000 in
set_option maxHeartbeats 4000000 in
theorem Of_any (w : World) (k : Int) (a : Option Addr) (n c : Nat) (KL : List (List Nd)) (hn : n = KL.length) (hr : Bodies w a KL) (hs : ∀ b ∈ KL, Small b) (hsum : sumL KL ≤ 3000) (hn3 : n ≤ 3000) :
  Calls Tryz.prog 24 #[.int .i64 k, .slice a n c] w (NewRows w (ofL k KL)) := by
 obtain ⟨i0, hi0, hz0, hz1, hz2⟩ := info_parts Tryz.infoInt
 obtain ⟨j0, hj0, hy0, hy1, hy2⟩ := info_parts Tryz.infoNode
 have H := Lib.hid (And.intro hn (And.intro hr (And.intro hs hsum)))
 clear hn hr hs hsum
 go_enter Tryz.func24, Tryz.ntmps24
 go_wp2_with fail
 go_loopg [6, 5] n (fun dd iv ov wr => ∃ (i : Nat) (b : Option Addr) (d q : Nat), dd = n - i ∧ i ≤ n ∧ iv = .int .i64 i ∧ ov = .slice b (q + 1) d ∧ Hid (∃ L, L.map (·.1) = ofL k (KL.take i) ∧ OwnN w.heap.size wr b d L ∧ Chg [] w wr ∧ q = sumL (KL.take i)))
 case atStart =>
  refine ⟨0, some ⟨w.heap.size, 0, none⟩, 1, 0, rfl, Nat.zero_le _, rfl, rfl, Lib.hid ⟨[(bareN k, none, 0)], rfl, ⟨?_, ?_, List.pairwise_singleton _ _⟩, (Chg.refl _ _).alloc _, rfl⟩⟩
  ·exact ⟨rfl, .inr ⟨w.heap.size, 1, _, rfl, Nat.le_refl _, heap_alloc_same _ _, Nat.le_refl _, by decide, rfl, rfl⟩⟩
  ·intro p hp
   simp only [List.mem_singleton] at hp
   subst hp
   exact World.ownsRow_nil _ _ _ _
 case round =>
  obtain ⟨i, b, d, q, rfl, hi, rfl, rfl, hin⟩ := hrel
  obtain ⟨wq, rfl⟩ : ∃ wq, wq = wr := ⟨_, rfl⟩
  by_cases hlt : i < n
  ·obtain ⟨L0, h1, h2, h3, h4⟩ := hin.out
   have hiK : i < KL.length := by have := H.out.1; omega
   cases L0 with
   | nil => cases h1
   | cons p L =>
   have hp1 : p.1 = { bareN k with kids := gramO (KL.take i) 1 } := by simp only [List.map_cons, ofL] at h1; injection h1
   have hL1 : L.map (·.1) = gramN (KL.take i) 1 := by simp only [List.map_cons, ofL] at h1; injection h1
   have hLq : L.length = q := by rw [h4, ← gramN_sum (KL.take i) 1, ← hL1]; simp
   obtain ⟨G, rfl, hBG, ⟨cur, hcur⟩, hcells, hfr⟩ := h2.at (i := 0) (by simp)
   obtain ⟨pk, hpk⟩ : ∃ pk, pk = p.1.kids.length := ⟨_, rfl⟩
   obtain ⟨pa, hpa⟩ : ∃ pa, pa = p.2.1 := ⟨_, rfl⟩
   obtain ⟨pd, hpd⟩ : ∃ pd, pd = p.2.2 := ⟨_, rfl⟩
   have h8 : wq.cell? ⟨G, 8, none⟩ = some (.slice pa pk pd) := by
    have := hcells 8 (by decide)
    rw [Nat.zero_mul, Nat.zero_add] at this
    rw [this, hpa, hpk, hpd]; rfl
   have hGl := lt_of_block hcur
   have hpk3 : pk ≤ 3000 := by
    rw [hpk, hp1]
    show (gramO (KL.take i) 1).length ≤ 3000
    rw [gramO_len, List.length_take]; omega
   have hq3 : q ≤ 3000 := by have := sumL_take KL i; have := H.out.2.2.2; omega
   have hca := (Chg.refl [] wq).alloc (.cells #[.int .i64 ((q : Int) + 1)] 3)
   have hrow : (wq.alloc (.cells #[.int .i64 ((q : Int) + 1)] 3)).ownsRow w.heap.size 3 1 (.slice pa pk pd) pk (p.1.kids.map (Value.int .i64)) := by
    rw [hpa, hpk, hpd]
    exact World.ownsRow.alloc (h2.kids p (by simp)) _
   have hnew := cells_at (w := wq.alloc (.cells #[.int .i64 ((q : Int) + 1)] 3)) (heap_alloc_same _ _)
   have h1' : ∀ u ∈ [Value.int .i64 ((q : Int) + 1)], u.oneCell' = true := by simp [Value.oneCell']
   have h2' : pk + 1 ≤ maxLen ∧ (pk + 1) * 8 ≤ 140737488355328 := by simp only [maxLen]; omega
   have hb' : w.heap.size ≤ (wq.alloc (.cells #[.int .i64 ((q : Int) + 1)] 3)).heap.size := (h3.tr hca).size
   have HA := Lib.hid (And.intro hrow (And.intro hnew (And.intro h1' (And.intro h2' hb'))))
   have HB := Lib.hid (And.intro hp1 (And.intro hL1 (And.intro hLq (And.intro h2 (And.intro h3 (And.intro h4 (And.intro hcur (And.intro hpk (And.intro hpa (And.intro hpd (And.intro hca hBG)))))))))))
   obtain ⟨ba, oa, ak, ck, rfl, hkc, hkn⟩ := H.out.2.1 i hiK
   obtain ⟨ml, hml⟩ : ∃ ml, ml = KL[i].length := ⟨_, rfl⟩
   rw [← hml] at hkc
   have hsmall := H.out.2.2.1 _ (List.getElem_mem hiK)
   obtain ⟨bd, hbd⟩ : ∃ bd, bd = KL[i] := ⟨_, rfl⟩
   rw [← hbd] at hml hkn hsmall
   have hbd2 : KL[i]? = some bd := by rw [hbd]; exact List.getElem?_eq_getElem hiK
   have HK := Lib.hid (And.intro hbd2 (And.intro hml (And.intro hkn hsmall)))
   have HC := Lib.hid hkc
   clear h1 h2 h3 h4 hp1 hL1 hLq hcells hrow hnew h1' h2' hb' hcur hpk hpa hpd hca hiK hBG hml hkn hsmall hkc hbd hbd2
   go_wp2_with (at_builtin; refine wpList_append_own_at _ rfl _ _ 34 rfl w.heap.size 3 i0 _ 1 8 Tryz.underlying34 hi0 hz0 hz1 hz2 rfl (by decide) (.slice pa pk pd) pk (p.1.kids.map (Value.int .i64)) rfl HA.out.1 ⟨wq.heap.size, 0, none⟩ 1 1 [.int .i64 ((q : Int) + 1)] rfl rfl HA.out.2.1 HA.out.2.2.1 HA.out.2.2.2.1.1 HA.out.2.2.2.1.2 HA.out.2.2.2.2 ?_; intro v' w5 hr5 hg5 hn5 hb5; obtain ⟨a5, c5, rfl⟩ := ownsRow_slice hr5; have hO5 := grown_heap hg5 (heap_alloc_lt HB.out.2.2.2.2.2.2.1 _) (ownsRow_ne HA.out.1 (heap_alloc_lt HB.out.2.2.2.2.2.2.1 _) (by decide)); obtain ⟨v8, hv8⟩ : ∃ v, w5.cell? ⟨G, 8, none⟩ = some v := (by have h9 := h8; rw [cell_of_cells HB.out.2.2.2.2.2.2.1] at h9; exact ⟨_, (cell_of_cells hO5 8).trans h9⟩); have f8 := free_of_cells hO5 8; have hm5 := of_more HB.out.2.2.2.1 HB.out.2.2.2.2.1 HB.out.2.2.2.2.2.2.2.2.2.2.2 HB.out.2.2.2.2.2.2.2.1 HB.out.2.2.2.2.2.2.2.2.1 HB.out.2.2.2.2.2.2.2.2.2.1 hr5 hg5 hb5; have hk5 := hm5.2.cell HC.out (by simp); have HW := Lib.hid hm5; clear hr5 hg5 hn5 hb5 hO5 hm5)
   clear hk5 hv8 f8 h8
   obtain ⟨hbd2, hml, hkn, hsmall⟩ := HK.out
   refine (moved_any _ ak ml ck bd ((q : Int) + 1) hml (by rw [hml]; exact hsmall.len) (hkn.keep HW.out.2.kp) (fun x hx => (hsmall.kids x hx).1) (fun x hx z hz => by have := (hsmall.kids x hx).2 z hz; constructor <;> omega)).mono ?_
   rintro e w7 ⟨rb, rd, M, rfl, hM, hown7, hc7⟩
   have hMl : M.length = ml := by
    have := congrArg List.length hM
    rw [List.length_map, movedL_len] at this
    omega
   obtain ⟨G2, rfl, hG2, hsrc⟩ := hown7.src (fun h => by subst h; have := hsmall.one; have := List.length_pos_iff.2 this; simp at hMl; omega)
   rw [movedL_len, ← hml]
   have hrow7 := (HW.out.1.chg0 hc7).nodes
   have hlen7 : ((p.1.addKid ((q : Int) + 1), a5, c5) :: L).length = q + 1 := by simp [HB.out.2.2.1]
   rw [hlen7] at hrow7
   have hl7 : (nodesCells M).length = ml * 9 := by rw [nodesCells_len, hMl]
   have h2' : q + 1 + ml ≤ maxLen ∧ (q + 1 + ml) * 96 ≤ 140737488355328 := by have := hsmall.len; simp only [maxLen]; omega
   have hb7 : w.heap.size ≤ w7.heap.size := (HW.out.2.tr hc7).size
   have H7 := Lib.hid (And.intro hrow7 (And.intro hsrc (And.intro hl7 (And.intro h2' (And.intro hb7 (And.intro hM (And.intro hown7 (And.intro hc7 hMl))))))))
   clear hbd2 hml hkn hsmall hM hown7 hc7 hMl hsrc hrow7 hlen7 hl7 h2' hb7 hG2
   go_wp2_with (at_builtin; refine wpList_append_own_at _ rfl _ _ 29 rfl w.heap.size 65 j0 _ 9 96 Tryz.underlying29 hj0 hy0 hy1 hy2 rfl (by decide) (.slice (some ⟨G, 0, none⟩) (q + 1) d) (q + 1) (nodesCells ((p.1.addKid ((q : Int) + 1), a5, c5) :: L)) rfl H7.out.1 ⟨G2, 0, none⟩ ml rd (nodesCells M) rfl H7.out.2.2.1 H7.out.2.1 (cells_one M) H7.out.2.2.2.1.1 H7.out.2.2.2.1.2 H7.out.2.2.2.2.1 ?_; intro v' w8 hr8 hg8 hn8 hb8; obtain ⟨a8, c8, rfl⟩ := ownsRow_slice hr8; have HX := Lib.hid (And.intro hr8 hg8); clear hr8 hg8 hn8 hb8)
   go_roundg (n - (i + 1))
   case measure => omega
   case rel =>
    obtain ⟨hbd2, hml, hkn, hsmall⟩ := HK.out
    obtain ⟨hiK, hbd3⟩ := List.getElem?_eq_some_iff.1 hbd2
    subst hbd3
    obtain ⟨hrow7, hsrc, hl7, h2', hb7, hM, hown7, hc7, hMl⟩ := H7.out
    obtain ⟨hp1, hL1, hLq, h2, h3, h4, hcur, hpk, hpa, hpd, hca, hBG⟩ := HB.out
    have hown8 := HW.out.1.chg0 hc7
    have hlen7 : ((p.1.addKid ((q : Int) + 1), a5, c5) :: L).length = q + 1 := by simp [hLq]
    have hj := hown8.join (M := M) (b2' := a8) (d2' := c8) (w1 := w8) (fun r hr => row_base (hown7.kids r hr) HW.out.2.size) hown7.apart
     (fun r hr s hs i j hi hj e => by
      have q1 := (row_beyond (HW.out.1.kids r hr) hi).2.1
      have q2 := (row_beyond (hown7.kids s hs) hj).1
      omega)
     (by rw [hlen7, hMl]; exact HX.out.1) (by rw [hlen7]; exact HX.out.2)
    have hq' : q + ml = sumL (KL.take (i + 1)) := by rw [sumL_next KL hiK, ← h4, ← hml]
    refine ⟨i + 1, a8, c8, q + ml, rfl, by omega, by go_num, by rw [show q + 1 + ml = q + ml + 1 by omega], Lib.hid ⟨_, ?_, hj, ?_, hq'⟩⟩
    ·rw [List.map_append, List.map_cons, hM, hL1]
     simp only [ofL, List.take_succ_eq_append_getElem hiK, gramN_snoc, gramO_snoc, ← h4, List.cons_append]
     congr 1
     ·simp only [Nd.addKid, hp1]
      congr 2
      rw [show ((1 + q : Nat) : Int) = (q : Int) + 1 by omega]
     ·rw [show ((1 + q : Nat) : Int) = (q : Int) + 1 by omega]
    ·refine (HW.out.2.tr hc7).grown HX.out.2 (fun j hj => .inr ?_)
     have := (HW.out.1.nodes)
     rw [hlen7] at this
     exact (row_beyond this hj).1
  ·obtain rfl : i = n := by omega
   go_wp2_with fail
   go_ret
   obtain ⟨L, h1, h2, h3, h4⟩ := hin.out
   rw [H.out.1, List.take_length] at h1 h4
   refine ⟨b, d, L, ?_, h1, h2, h3⟩
   rw [ofL_len, ← h4]; rfl
end Go.Proofs.YtlklmpjakeedcaaGreatDoor
