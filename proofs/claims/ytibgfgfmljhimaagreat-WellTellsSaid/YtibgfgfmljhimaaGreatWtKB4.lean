/-
  The kit: a copy of a grammar in rows of its own; a node of it put for another.
  Conditions: the grammar reads as data; it is small.
-/
import Derived.Test.YtibgfgfmljhimaaGreatWtKB3
set_option linter.unusedVariables false
set_option linter.unusedSimpArgs false
set_option linter.unnecessarySimpa false
namespace Go.Proofs.YtibgfgfmljhimaaGreat
open Go.RowKit Go.MapKept Go.Shelf

/-- Nine cells of a node's row. -/
def set9 (w : World) (G o : Nat) (u0 u1 u2 u3 u4 u5 u6 u7 u8 : Value) : World :=
  ((((((((w.setCell ⟨G, o, none⟩ u0).setCell ⟨G, o + 1, none⟩ u1).setCell ⟨G, o + 2, none⟩ u2).setCell ⟨G, o + 3, none⟩ u3).setCell ⟨G, o + 4, none⟩ u4).setCell ⟨G, o + 5, none⟩ u5).setCell ⟨G, o + 6, none⟩ u6).setCell ⟨G, o + 7, none⟩ u7).setCell ⟨G, o + 8, none⟩ u8
/-- A node without kids is put. -/
theorem OwnN.put {B : Nat} {w : World} {G d2 : Nat} {L : List Cp} (h : OwnN B w (some ⟨G, 0, none⟩) d2 L) {i : Nat} (hi : i < L.length) {y : Nd} (hy : y.kids = []) :
    OwnN B (set9 w G (i * 9) (.int .i64 y.k) (.int .u64 y.c0) (.int .u64 y.c1) (.int .u64 y.c2) (.int .u64 y.c3) (.string y.s) (.int .i64 y.r) (.int .i64 y.l) (.slice none 0 0)) (some ⟨G, 0, none⟩) d2 (L.set i (y, none, 0)) ∧
    Chg [G] w (set9 w G (i * 9) (.int .i64 y.k) (.int .u64 y.c0) (.int .u64 y.c1) (.int .u64 y.c2) (.int .u64 y.c3) (.string y.s) (.int .i64 y.r) (.int .i64 y.l) (.slice none 0 0)) := by
  have hc : Chg [G] w (set9 w G (i * 9) (.int .i64 y.k) (.int .u64 y.c0) (.int .u64 y.c1) (.int .u64 y.c2) (.int .u64 y.c3) (.string y.s) (.int .i64 y.r) (.int .i64 y.l) (.slice none 0 0)) := by
    unfold set9
    exact (((((((((Chg.refl [G] w).setCell (p := ⟨G, i * 9, none⟩) (.inl (by simp)) _).setCell (p := ⟨G, i * 9 + 1, none⟩) (.inl (by simp)) _).setCell (p := ⟨G, i * 9 + 2, none⟩) (.inl (by simp)) _).setCell (p := ⟨G, i * 9 + 3, none⟩) (.inl (by simp)) _).setCell (p := ⟨G, i * 9 + 4, none⟩) (.inl (by simp)) _).setCell (p := ⟨G, i * 9 + 5, none⟩) (.inl (by simp)) _).setCell (p := ⟨G, i * 9 + 6, none⟩) (.inl (by simp)) _).setCell (p := ⟨G, i * 9 + 7, none⟩) (.inl (by simp)) _).setCell (p := ⟨G, i * 9 + 8, none⟩) (.inl (by simp)) _
  rcases h.nodes.2 with ⟨h0, h1⟩ | ⟨g, cap, cur, h0, hb, hg, hn, hcm, hcs, ht⟩
  · cases h0
  cases h0
  have hN : ∀ k ∈ [G], NotRow w 3 k := fun k hk => by simp only [List.mem_singleton] at hk; subst hk; exact .of_cells hg (by decide)
  have hend : (set9 w G (i * 9) (.int .i64 y.k) (.int .u64 y.c0) (.int .u64 y.c1) (.int .u64 y.c2) (.int .u64 y.c3) (.string y.s) (.int .i64 y.r) (.int .i64 y.l) (.slice none 0 0)).heap[G]? =
      some (.cells (((((((((cur.setIfInBounds (i * 9) (.int .i64 y.k)).setIfInBounds (i * 9 + 1) (.int .u64 y.c0)).setIfInBounds (i * 9 + 2) (.int .u64 y.c1)).setIfInBounds (i * 9 + 3) (.int .u64 y.c2)).setIfInBounds (i * 9 + 4) (.int .u64 y.c3)).setIfInBounds (i * 9 + 5) (.string y.s)).setIfInBounds (i * 9 + 6) (.int .i64 y.r)).setIfInBounds (i * 9 + 7) (.int .i64 y.l)).setIfInBounds (i * 9 + 8) (.slice none 0 0)) 53 (0, 0)) := by
    unfold set9
    exact heap_setCell_same (heap_setCell_same (heap_setCell_same (heap_setCell_same (heap_setCell_same (heap_setCell_same (heap_setCell_same (heap_setCell_same (heap_setCell_same hg _ _) _ _) _ _) _ _) _ _) _ _) _ _) _ _) _ _
  refine ⟨⟨⟨by rw [nodesCells_len, List.length_set], .inr ⟨G, d2, _, by rw [List.length_set], hb, hend, by rw [List.length_set]; exact hn, hcm, by simpa using hcs, ?_⟩⟩, ?_, ?_⟩, hc⟩
  · rw [List.length_set]
    have hcl : L.length * 9 ≤ cur.size := by rw [hcs]; omega
    apply List.ext_getElem?
    intro j
    rw [List.getElem?_take]
    by_cases hj : j < L.length * 9
    · rw [if_pos hj]
      have e9 : j = j / 9 * 9 + j % 9 := by omega
      have hr9 : j % 9 < 9 := Nat.mod_lt _ (by decide)
      have hq : j / 9 < L.length := by omega
      have hold : cur[j]? = (L[j / 9]'hq).cells[j % 9]? := by
        have h1 := flat_get Cp.cells 9 cp_len L (j / 9) (j % 9) hr9
        rw [List.getElem?_eq_getElem hq, Option.bind_some, ← e9] at h1
        have h2 : (nodesCells L)[j]? = (L[j / 9]'hq).cells[j % 9]? := h1
        rw [← ht, List.getElem?_take, if_pos hj] at h2
        simpa using h2
      have hnew := flat_get Cp.cells 9 cp_len (L.set i (y, none, 0)) (j / 9) (j % 9) hr9
      rw [← e9] at hnew
      have hnew' : (nodesCells (L.set i (y, none, 0)))[j]? = ((L.set i (y, none, 0))[j / 9]?).bind fun a => a.cells[j % 9]? := hnew
      rw [hnew', List.getElem?_set]
      by_cases hij : i = j / 9
      · rw [if_pos hij, if_pos hi, Option.bind_some]
        have hjj : j = i * 9 + j % 9 := by rw [hij]; exact e9
        have hsz : j < cur.size := by omega
        simp only [Array.getElem?_toList, Array.getElem?_setIfInBounds, Array.size_setIfInBounds, Cp.cells, Nd.cells, hy, List.length_nil]
        rcases (show j % 9 = 0 ∨ j % 9 = 1 ∨ j % 9 = 2 ∨ j % 9 = 3 ∨ j % 9 = 4 ∨ j % 9 = 5 ∨ j % 9 = 6 ∨ j % 9 = 7 ∨ j % 9 = 8 by omega) with hm | hm | hm | hm | hm | hm | hm | hm | hm <;> rw [hm] at hjj ⊢ <;> subst hjj <;> simp <;> omega
      · rw [if_neg hij, List.getElem?_eq_getElem hq, Option.bind_some, ← hold]
        have hne : ∀ r, r < 9 → i * 9 + r ≠ j := fun r hr e => hij (by omega)
        simp only [Array.getElem?_toList, Array.getElem?_setIfInBounds, hne 8 (by decide), hne 7 (by decide), hne 6 (by decide), hne 5 (by decide), hne 4 (by decide), hne 3 (by decide), hne 2 (by decide), hne 1 (by decide), if_false]
        rw [if_neg (by have := hne 0 (by decide); omega)]
    · rw [if_neg hj, List.getElem?_eq_none (by rw [nodesCells_len, List.length_set]; omega)]
  · intro p hp
    rcases List.mem_or_eq_of_mem_set hp with hp | rfl
    · exact hc.rowOf (h.kids p hp) hN
    · rw [show FreshInts B _ none 0 y.kids ↔ FreshInts B _ none 0 [] by rw [hy]]
      exact World.ownsRow_nil _ _ _ _
  · rw [List.pairwise_iff_getElem]
    intro a b ha hb2 hab x z hx hz
    have ha' : a < L.length := by simpa using ha
    have hb' : b < L.length := by simpa using hb2
    rw [List.getElem_set] at hx hz
    have hown : ∀ k, (Cp.own (y, none, 0)) = some k → False := fun k hk => by simp [Cp.own, hy, Value.ownBlock] at hk
    split at hx
    · exact (hown _ hx).elim
    · split at hz
      · exact (hown _ hz).elim
      · exact List.pairwise_iff_getElem.1 h.apart a b ha' hb' hab x z hx hz
theorem FreshRules.drew {B : Nat} {w : World} {a : Option Addr} {c : Nat} {rs : List Rl} (h : FreshRules B w a c rs) : FreshRules B w.drew a c rs := ((Chg.refl [] w).drew).row h (fun _ _ => by simp)
end Go.Proofs.YtibgfgfmljhimaaGreat
