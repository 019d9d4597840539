/-
  In a grammar of one's own a node's last kid is turned.
  Conditions: none.
-/
import Derived.Test.YtibgfgfmljhimaaGBend
import Derived.Test.YtibgfgfmljhimaaGOwn
set_option linter.unusedVariables false
set_option linter.unusedSimpArgs false
namespace Go.Proofs.Ytibgfgfmljhimaa
open Go.RowKit Go.MapKept Go.Shelf

theorem bend_len (x : Nd) (v : Int) (h : x.kids ≠ []) : (x.bend v).kids.length = x.kids.length := by
  have := List.length_pos_iff.2 h
  simp [Nd.bend]; omega
def Cp.bend (p : Cp) (v : Int) : Cp := (p.1.bend v, p.2.1, p.2.2)
theorem bend_cells (p : Cp) (v : Int) (h : p.1.kids ≠ []) : (p.bend v).cells = p.cells := by
  simp only [Cp.cells, Cp.bend, bend_len p.1 v h]
  rfl
theorem bend_own (p : Cp) (v : Int) (h : p.1.kids ≠ []) : (p.bend v).own = p.own := by simp only [Cp.own, Cp.bend, bend_len p.1 v h]
theorem cells_set {L : List Cp} {i : Nat} (hi : i < L.length) {q : Cp} (h : q.cells = L[i].cells) : nodesCells (L.set i q) = nodesCells L := by
  rw [nodesCells, nodesCells, List.flatMap_def, List.flatMap_def, List.map_set, h]
  congr 1
  apply List.ext_getElem
  · simp
  · intro j h1 h2
    rw [List.getElem_set]
    split
    · rename_i hij; subst hij; simp
    · rfl
theorem last_take {zs : List Int} {cur : Array Value} (h : cur.toList.take zs.length = zs.map (Value.int .i64)) (hz : zs ≠ []) (v : Int) (hc : zs.length ≤ cur.size) :
    (cur.setIfInBounds (zs.length - 1) (.int .i64 v)).toList.take zs.length = (zs.dropLast ++ [v]).map (Value.int .i64) := by
  have hp := List.length_pos_iff.2 hz
  apply List.ext_getElem?
  intro j
  rw [List.getElem?_take]
  by_cases hj : j < zs.length
  · rw [if_pos hj, Array.getElem?_toList, Array.getElem?_setIfInBounds]
    by_cases hl : zs.length - 1 = j
    · subst hl
      rw [if_pos rfl, if_pos (by omega)]
      rw [List.map_append, List.getElem?_append_right (by simp)]
      simp
    · rw [if_neg hl, List.map_append, List.getElem?_append_left (by simp; omega)]
      have h1 : (zs.map (Value.int .i64))[j]? = cur[j]? := by rw [← h, List.getElem?_take, if_pos hj]; simp
      rw [← h1, List.getElem?_map, List.getElem?_map, List.getElem?_dropLast, if_pos (by omega)]
  · rw [if_neg hj, List.getElem?_eq_none (by simp; omega)]
theorem OwnG.bendAt {B : Nat} {w : World} {b1 : Option Addr} {d1 : Nat} {b2 : Option Addr} {d2 : Nat} {L : List Cp} {rs : List Rl} (h : OwnG B w b1 d1 b2 d2 L rs) {i : Nat} (hi : i < L.length) (hne : L[i].1.kids ≠ []) {K : Nat} (hK : L[i].2.1 = some ⟨K, 0, none⟩) (v : Int) :
    OwnG B (w.setCell ⟨K, L[i].1.kids.length - 1, none⟩ (.int .i64 v)) b1 d1 b2 d2 (L.set i (L[i].bend v)) rs ∧ Chg [K] w (w.setCell ⟨K, L[i].1.kids.length - 1, none⟩ (.int .i64 v)) := by
  have hc := (Chg.refl [K] w).setCell (p := ⟨K, L[i].1.kids.length - 1, none⟩) (.inl (by simp)) (.int .i64 v)
  have hik := h.kids _ (List.getElem_mem hi)
  have hKo : L[i].own = some K := by simp [Cp.own, hK, Value.ownBlock]
  obtain ⟨_, _, cur0, hK0⟩ := row_beyond hik hKo
  have hN : ∀ e, 3 ≠ e → ∀ k ∈ [K], NotRow w e k := fun e he k hk => by simp only [List.mem_singleton] at hk; subst hk; exact .of_cells hK0 he
  have hap : ∀ a b (ha : a < L.length) (hb : b < L.length), a < b → ∀ i j, L[a].own = some i → L[b].own = some j → i < j := fun a b ha hb hab => List.pairwise_iff_getElem.1 h.apart a b ha hb hab
  refine ⟨⟨hc.rowOf h.rules (hN _ (by decide)), ?_, ?_, ?_⟩, hc⟩
  · rw [List.length_set, cells_set hi (bend_cells _ v hne)]
    exact hc.rowOf h.nodes (hN _ (by decide))
  · intro p hp
    obtain ⟨j, hj, rfl⟩ := List.mem_iff_getElem.1 hp
    have hj' : j < L.length := by simpa using hj
    rw [List.getElem_set]
    split
    · rename_i hij
      subst hij
      refine ⟨by simp [Cp.bend], .inr ?_⟩
      rcases hik.2 with ⟨h0, h1⟩ | ⟨G, cap, cur, h0, hb, hg, hn, hcm, hcs, ht⟩
      · exact absurd h1 (by have := List.length_pos_iff.2 hne; omega)
      · rw [hK] at h0
        cases h0
        refine ⟨K, L[i].2.2, _, ?_, hb, heap_setCell_same hg _ _, ?_, hcm, by simpa using hcs, ?_⟩
        · simp [Cp.bend, hK]
        · simp only [Cp.bend, bend_len _ v hne]; exact hn
        · simp only [Cp.bend, bend_len _ v hne, Nat.mul_one]
          exact last_take (by simpa using ht) hne v (by omega)
    · rename_i hij
      refine hc.row (h.kids _ (List.getElem_mem hj')) (fun k hk hm => ?_)
      simp only [List.mem_singleton] at hm
      subst hm
      rcases Nat.lt_or_gt_of_ne hij with hlt | hlt
      · have := hap i j hi hj' hlt k k hKo hk; omega
      · have := hap j i hj' hi hlt k k hk hKo; omega
  · rw [List.pairwise_iff_getElem]
    intro a b ha hb hab x y hx hy
    have ha' : a < L.length := by simpa using ha
    have hb' : b < L.length := by simpa using hb
    have key : ∀ c (hc : c < L.length) (hc' : c < (L.set i (L[i].bend v)).length), ((L.set i (L[i].bend v))[c]).own = L[c].own := by
      intro c hc hc'
      rw [List.getElem_set]
      split
      · rename_i hic; subst hic; exact bend_own _ v hne
      · rfl
    rw [key a ha' ha] at hx
    rw [key b hb' hb] at hy
    exact hap a b ha' hb' hab x y hx hy
end Go.Proofs.Ytibgfgfmljhimaa
