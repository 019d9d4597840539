/-
  The kit: a copy of a grammar in rows of its own; a node of it put for another.
  Conditions: the grammar reads as data; it is small.
-/
import Derived.Test.YtibgfgfmljhimaaKB3
set_option linter.unusedVariables false
set_option linter.unusedSimpArgs false
set_option linter.unnecessarySimpa false
namespace Go.Proofs.Ytibgfgfmljhimaa
open Go.RowKit Go.MapKept Go.Shelf

set_option maxRecDepth 100000 in
set_option maxHeartbeats 1000000 in
theorem CopyRulesF_any (w : World) (a : Option Addr) (n c : Nat) (rs : List Rl) (hn : n = rs.length) (hs : n ≤ 300) (hz : Rules w a rs) :
    Calls Try.prog 79 #[.slice a n c] w (ClonedRules w rs) := by
  obtain ⟨i0, hi, hz0, hz1, hz2⟩ := info_parts Try.infoRule
  cases a with
  | none =>
    obtain rfl := rules_none hz
    obtain rfl : n = 0 := by simpa using hn
    clear hz hn
    have hnil : w.ownsRow w.heap.size 46 2 (.slice none 0 0) 0 [] := World.ownsRow_nil _ _ _ _
    have HN := Lib.hid hnil
    clear hnil
    go_enter Try.func79, Try.ntmps79
    go_wp2_with (at_builtin; refine wpList_append_nil rfl _ _ 22 rfl w.heap.size 46 i0 2 c Try.underlying22 hi (.slice none 0 0) 0 [] rfl HN.out rfl ?_)
    go_ret
    exact ⟨none, 0, rfl, HN.out, Chg.refl _ _⟩
  | some b =>
    have hl : (rulesCells rs).length = n * 2 := by rw [rulesCells_len, hn]
    have h1 : ∀ u ∈ rulesCells rs, u.oneCell' = true := by
      intro u hu
      obtain ⟨z, _, hz⟩ := List.mem_flatMap.1 hu
      simp only [Rl.cells, List.mem_cons, List.not_mem_nil, or_false] at hz
      rcases hz with rfl | rfl <;> rfl
    have h2 : 0 + n ≤ maxLen ∧ (0 + n) * 24 ≤ 140737488355328 := by simp only [maxLen]; omega
    have HN := Lib.hid (And.intro hl (And.intro (rules_some hz) (And.intro h1 (And.intro h2 hn))))
    clear hl h1 h2 hz hn
    go_enter Try.func79, Try.ntmps79
    go_wp2_with (at_builtin; refine wpList_append_own_at _ rfl _ _ 22 rfl w.heap.size 46 i0 _ 2 24 Try.underlying22 hi hz0 hz1 hz2 rfl (by decide) (.slice none 0 0) 0 [] rfl (World.ownsRow_nil _ _ _ _) b n c (rulesCells rs) rfl HN.out.1 HN.out.2.1 HN.out.2.2.1 HN.out.2.2.2.1.1 HN.out.2.2.2.1.2 (Nat.le_refl _) ?_; intro v' w1 hown hgrow hnil hblk; obtain ⟨a', c', rfl⟩ := ownsRow_slice hown; have HW := Lib.hid (And.intro hown hgrow); clear hown hgrow hnil hblk)
    go_ret
    obtain ⟨hl, h3, h1, h2, hn⟩ := HN.out
    obtain ⟨hr, hg⟩ := HW.out
    subst hn
    simp only [Nat.zero_add] at hr ⊢
    exact ⟨a', c', rfl, by simpa [FreshRules] using hr, (Chg.refl _ _).grown hg (fun k hk => by cases hk)⟩

set_option maxRecDepth 100000 in
set_option maxHeartbeats 2000000 in
theorem CopyGrammarF_any (w : World) (a1 : Option Addr) (n1 c1 : Nat) (a2 : Option Addr) (n2 c2 : Nat) (g : Gr) (hg : GramAt w a1 n1 c1 a2 n2 c2 g) (hs1 : n1 ≤ 300) (hs2 : n2 ≤ 300) (hk : ∀ x ∈ g.nodes, x.kids.length ≤ 300) :
    Calls Try.prog 20 #[.agg #[.slice a1 n1 c1, .slice a2 n2 c2]] w (NewGramRows w g) := by
  have HG := Lib.hid (And.intro hg (And.intro hs1 (And.intro hs2 hk)))
  clear hg hs1 hs2 hk
  go_enter Try.func20, Try.ntmps20
  go_wp2_with fail
  refine (CopyRulesF_any _ _ _ _ g.rules HG.out.1.e1 HG.out.2.1 (HG.out.1.rules.keep (((Chg.refl [] w).alloc _).alloc _).kp)).mono ?_
  rintro e w3 ⟨b1, d1, rfl, hR, hc3⟩
  have hb0 := hc3.heap (heap_alloc_lt (heap_alloc_same _ _) _) (by simp)
  have hb1 := hc3.heap (heap_alloc_same _ _) (by simp)
  have hl := hc3.size
  simp only [World.size_alloc] at hb1 hl hR
  have hcw := (((Chg.refl [] w).alloc _).alloc _).tr0 hc3
  have hR : FreshRules w.heap.size w3 b1 d1 g.rules := row_base hR (by omega)
  have H3 := Lib.hid (And.intro hR (And.intro hcw (And.intro hb0 hb1)))
  clear hR hcw hb0 hb1 hc3
  obtain ⟨x0, x1⟩ := cells2 H3.out.2.2.1
  have f0 := free_of_cells H3.out.2.2.1 0
  go_wp2_with fail
  clear x0 x1 f0
  have hs0 := heap_setCell_same H3.out.2.2.1 0 (.slice b1 g.rules.length d1)
  have hs1 := heap_set_ne (c := w.heap.size) (i := 0) (u := .slice b1 g.rules.length d1) H3.out.2.2.2 (by omega)
  have hcs := (Chg.refl [w.heap.size] w3).setCell (p := ⟨w.heap.size, 0, none⟩) (.inl (by simp)) (.slice b1 g.rules.length d1)
  have hno : ∀ {W : World} {T : Nat} {cs : Array Value}, W.heap[T]? = some (.cells cs 25 (0, 0)) → ∀ k ∈ [T], NotRow W 46 k ∧ NotRow W 32 k ∧ NotRow W 3 k := fun h k hk => by
    simp only [List.mem_singleton] at hk; subst hk
    exact ⟨.of_cells h (by decide), .of_cells h (by decide), .of_cells h (by decide)⟩
  have hR4 := hcs.rowOf H3.out.1 (fun k hk => (hno H3.out.2.2.1 k hk).1)
  have hN4 := (HG.out.1.nodes.keep H3.out.2.1.kp).two ⟨_, _, _, _, _, _, H3.out.2.2.1⟩ hcs
  have hc4 := H3.out.2.1.trans hcs (fun j hj => .inr (by simp at hj; omega))
  have hsz := hcs.size
  obtain ⟨w4, e4⟩ : ∃ w4, w4 = w3.setCell ⟨w.heap.size, 0, none⟩ (.slice b1 g.rules.length d1) := ⟨_, rfl⟩
  rw [← e4] at hs0 hs1 hcs hR4 hN4 hc4 hsz ⊢
  clear e4 hcs
  simp at hs0
  refine (CopyNodesF_any _ _ _ _ g.nodes HG.out.1.e2 (by have := HG.out.2.2.1; omega) hN4 (fun x hx => by have := HG.out.2.2.2 x hx; omega)).mono ?_
  rintro e w5 ⟨b2, d2, L, rfl, hL, hN, hc5⟩
  have hb0 := hc5.heap hs0 (by simp)
  have hb1 := hc5.heap hs1 (by simp)
  have H5 := Lib.hid (And.intro hL (And.intro (hN.ownN.below hc4.size) (And.intro (hc4.tr0 hc5) (And.intro hb0 (And.intro hb1 (hc5.row hR4 (fun _ _ => by simp)))))))
  clear hL hN hc5 hb0 hb1 hs0 hs1 hR4 hN4 hc4
  obtain ⟨x0, x1⟩ := cells2 H5.out.2.2.2.1
  have f1 := free_of_cells H5.out.2.2.2.1 1
  obtain ⟨y0, y1⟩ := cells2 H5.out.2.2.2.2.1
  have g0 := free_of_cells H5.out.2.2.2.2.1 0
  have g1 := free_of_cells H5.out.2.2.2.2.1 1
  go_wp2_with fail
  have hc6 := (Chg.refl [w.heap.size] w5).setCell (p := ⟨w.heap.size, 1, none⟩) (.inl (by simp)) (.slice b2 g.nodes.length d2)
  have hz0 := heap_set_ne (c := w.heap.size) (i := 1) (u := .slice b2 g.nodes.length d2) H5.out.2.2.2.2.1 (by omega)
  have hR6 := hc6.rowOf H5.out.2.2.2.2.2 (fun k hk => (hno H5.out.2.2.2.1 k hk).1)
  have hN6 := H5.out.2.1.chg hc6 (fun k hk => (hno H5.out.2.2.2.1 k hk).2)
  have hsz6 := hc6.size
  have hsz5 := H5.out.2.2.1.size
  have hw6 := H5.out.2.2.1.trans hc6 (fun j hj => .inr (by simp at hj; omega))
  obtain ⟨w6, e6⟩ : ∃ w6, w6 = w5.setCell ⟨w.heap.size, 1, none⟩ (.slice b2 g.nodes.length d2) := ⟨_, rfl⟩
  rw [← e6] at hc6 hz0 hR6 hN6 hsz6 hw6 ⊢
  clear e6 hc6 x0 x1 y0 y1 f1 g0 g1
  have hc7 := ((Chg.refl [w.heap.size + 1] w6).setCell (p := ⟨w.heap.size + 1, 0, none⟩) (.inl (by simp)) (.slice b1 g.rules.length d1)).setCell (p := ⟨w.heap.size + 1, 1, none⟩) (.inl (by simp)) (.slice b2 g.nodes.length d2)
  have hz1 := heap_setCell_same (heap_setCell_same hz0 0 (.slice b1 g.rules.length d1)) 1 (.slice b2 g.nodes.length d2)
  have hR7 := hc7.rowOf hR6 (fun k hk => (hno hz0 k hk).1)
  have hN7 := hN6.chg hc7 (fun k hk => (hno hz0 k hk).2)
  have hw7 := hw6.trans hc7 (fun j hj => .inr (by simp at hj; omega))
  obtain ⟨w7, e7⟩ : ∃ w7, w7 = (w6.setCell ⟨w.heap.size + 1, 0, none⟩ (.slice b1 g.rules.length d1)).setCell ⟨w.heap.size + 1, 1, none⟩ (.slice b2 g.nodes.length d2) := ⟨_, rfl⟩
  rw [← e7] at hz1 hR7 hN7 hw7 ⊢
  clear e7 hc7 hz0
  simp at hz1
  obtain ⟨c0, c1'⟩ := cells2 hz1
  have hTl := lt_of_block hz1
  refine bodyPost_ret (v := .agg #[.slice b1 g.rules.length d1, .slice b2 g.nodes.length d2]) (by simp [results, Try.results20, go_sem, c0, c1', hTl]) rfl ?_
  exact ⟨b1, d1, b2, d2, L, rfl, H5.out.1, hR7, hN7, hw7⟩

/-- Nine cells of a node's row. -/
def set9 (w : World) (G o : Nat) (u0 u1 u2 u3 u4 u5 u6 u7 u8 : Value) : World :=
  ((((((((w.setCell ⟨G, o, none⟩ u0).setCell ⟨G, o + 1, none⟩ u1).setCell ⟨G, o + 2, none⟩ u2).setCell ⟨G, o + 3, none⟩ u3).setCell ⟨G, o + 4, none⟩ u4).setCell ⟨G, o + 5, none⟩ u5).setCell ⟨G, o + 6, none⟩ u6).setCell ⟨G, o + 7, none⟩ u7).setCell ⟨G, o + 8, none⟩ u8
theorem list_set9 {α : Type} (f : Nat → List α) : True := trivial
/-- A node without kids is put. -/
theorem OwnN.put {B : Nat} {w : World} {G d2 : Nat} {L : List Cp} (h : OwnN B w (some ⟨G, 0, none⟩) d2 L) {i : Nat} (hi : i < L.length) {y : Nd} (hy : y.kids = []) :
    OwnN B (set9 w G (i * 9) (.int .i64 y.k) (.int .u64 y.c0) (.int .u64 y.c1) (.int .u64 y.c2) (.int .u64 y.c3) (.string y.s) (.int .i64 y.r) (.int .i64 y.l) (.slice none 0 0)) (some ⟨G, 0, none⟩) d2 (L.set i (y, none, 0)) ∧
    Chg [G] w (set9 w G (i * 9) (.int .i64 y.k) (.int .u64 y.c0) (.int .u64 y.c1) (.int .u64 y.c2) (.int .u64 y.c3) (.string y.s) (.int .i64 y.r) (.int .i64 y.l) (.slice none 0 0)) := by
  have hc : Chg [G] w (set9 w G (i * 9) (.int .i64 y.k) (.int .u64 y.c0) (.int .u64 y.c1) (.int .u64 y.c2) (.int .u64 y.c3) (.string y.s) (.int .i64 y.r) (.int .i64 y.l) (.slice none 0 0)) := by
    unfold set9
    exact (((((((((Chg.refl [G] w).setCell (p := ⟨G, i * 9, none⟩) (.inl (by simp)) _).setCell (p := ⟨G, i * 9 + 1, none⟩) (.inl (by simp)) _).setCell (p := ⟨G, i * 9 + 2, none⟩) (.inl (by simp)) _).setCell (p := ⟨G, i * 9 + 3, none⟩) (.inl (by simp)) _).setCell (p := ⟨G, i * 9 + 4, none⟩) (.inl (by simp)) _).setCell (p := ⟨G, i * 9 + 5, none⟩) (.inl (by simp)) _).setCell (p := ⟨G, i * 9 + 6, none⟩) (.inl (by simp)) _).setCell (p := ⟨G, i * 9 + 7, none⟩) (.inl (by simp)) _).setCell (p := ⟨G, i * 9 + 8, none⟩) (.inl (by simp)) _
  rcases h.nodes.2 with ⟨h0, h1⟩ | ⟨g, cap, cur, h0, hb, hg, hn, hcm, hcs, ht⟩
  · cases h0
  cases h0
  have hN : ∀ k ∈ [G], NotRow w 3 k := fun k hk => by simp only [List.mem_singleton] at hk; subst hk; exact .of_cells hg (by decide)
  have hend : (set9 w G (i * 9) (.int .i64 y.k) (.int .u64 y.c0) (.int .u64 y.c1) (.int .u64 y.c2) (.int .u64 y.c3) (.string y.s) (.int .i64 y.r) (.int .i64 y.l) (.slice none 0 0)).heap[G]? =
      some (.cells (((((((((cur.setIfInBounds (i * 9) (.int .i64 y.k)).setIfInBounds (i * 9 + 1) (.int .u64 y.c0)).setIfInBounds (i * 9 + 2) (.int .u64 y.c1)).setIfInBounds (i * 9 + 3) (.int .u64 y.c2)).setIfInBounds (i * 9 + 4) (.int .u64 y.c3)).setIfInBounds (i * 9 + 5) (.string y.s)).setIfInBounds (i * 9 + 6) (.int .i64 y.r)).setIfInBounds (i * 9 + 7) (.int .i64 y.l)).setIfInBounds (i * 9 + 8) (.slice none 0 0)) 32 (0, 0)) := by
    unfold set9
    exact heap_setCell_same (heap_setCell_same (heap_setCell_same (heap_setCell_same (heap_setCell_same (heap_setCell_same (heap_setCell_same (heap_setCell_same (heap_setCell_same hg _ _) _ _) _ _) _ _) _ _) _ _) _ _) _ _) _ _
  refine ⟨⟨⟨by rw [nodesCells_len, List.length_set], .inr ⟨G, d2, _, by rw [List.length_set], hb, hend, by rw [List.length_set]; exact hn, hcm, by simpa using hcs, ?_⟩⟩, ?_, ?_⟩, hc⟩
  · rw [List.length_set]
    have hcl : L.length * 9 ≤ cur.size := by rw [hcs]; omega
    apply List.ext_getElem?
    intro j
    rw [List.getElem?_take]
    by_cases hj : j < L.length * 9
    · rw [if_pos hj]
      have e9 : j = j / 9 * 9 + j % 9 := by omega
      have hr9 : j % 9 < 9 := Nat.mod_lt _ (by decide)
      have hq : j / 9 < L.length := by omega
      have hold : cur[j]? = (L[j / 9]'hq).cells[j % 9]? := by
        have h1 := flat_get Cp.cells 9 cp_len L (j / 9) (j % 9) hr9
        rw [List.getElem?_eq_getElem hq, Option.bind_some, ← e9] at h1
        have h2 : (nodesCells L)[j]? = (L[j / 9]'hq).cells[j % 9]? := h1
        rw [← ht, List.getElem?_take, if_pos hj] at h2
        simpa using h2
      have hnew := flat_get Cp.cells 9 cp_len (L.set i (y, none, 0)) (j / 9) (j % 9) hr9
      rw [← e9] at hnew
      have hnew' : (nodesCells (L.set i (y, none, 0)))[j]? = ((L.set i (y, none, 0))[j / 9]?).bind fun a => a.cells[j % 9]? := hnew
      rw [hnew', List.getElem?_set]
      by_cases hij : i = j / 9
      · rw [if_pos hij, if_pos hi, Option.bind_some]
        have hjj : j = i * 9 + j % 9 := by rw [hij]; exact e9
        have hsz : j < cur.size := by omega
        simp only [Array.getElem?_toList, Array.getElem?_setIfInBounds, Array.size_setIfInBounds, Cp.cells, Nd.cells, hy, List.length_nil]
        rcases (show j % 9 = 0 ∨ j % 9 = 1 ∨ j % 9 = 2 ∨ j % 9 = 3 ∨ j % 9 = 4 ∨ j % 9 = 5 ∨ j % 9 = 6 ∨ j % 9 = 7 ∨ j % 9 = 8 by omega) with hm | hm | hm | hm | hm | hm | hm | hm | hm <;> rw [hm] at hjj ⊢ <;> subst hjj <;> simp <;> omega
      · rw [if_neg hij, List.getElem?_eq_getElem hq, Option.bind_some, ← hold]
        have hne : ∀ r, r < 9 → i * 9 + r ≠ j := fun r hr e => hij (by omega)
        simp only [Array.getElem?_toList, Array.getElem?_setIfInBounds, hne 8 (by decide), hne 7 (by decide), hne 6 (by decide), hne 5 (by decide), hne 4 (by decide), hne 3 (by decide), hne 2 (by decide), hne 1 (by decide), if_false]
        rw [if_neg (by have := hne 0 (by decide); omega)]
    · rw [if_neg hj, List.getElem?_eq_none (by rw [nodesCells_len, List.length_set]; omega)]
  · intro p hp
    rcases List.mem_or_eq_of_mem_set hp with hp | rfl
    · exact hc.rowOf (h.kids p hp) hN
    · rw [show FreshInts B _ none 0 y.kids ↔ FreshInts B _ none 0 [] by rw [hy]]
      exact World.ownsRow_nil _ _ _ _
  · rw [List.pairwise_iff_getElem]
    intro a b ha hb2 hab x z hx hz
    have ha' : a < L.length := by simpa using ha
    have hb' : b < L.length := by simpa using hb2
    rw [List.getElem_set] at hx hz
    have hown : ∀ k, (Cp.own (y, none, 0)) = some k → False := fun k hk => by simp [Cp.own, hy, Value.ownBlock] at hk
    split at hx
    · exact (hown _ hx).elim
    · split at hz
      · exact (hown _ hz).elim
      · exact List.pairwise_iff_getElem.1 h.apart a b ha' hb' hab x z hx hz
theorem wpOp_guardK {P : Program} {ops : Array Oper} {Q : Exit → Act → World → Prop} {i : Nat} {o : Oper} {K : Act → World → Prop} {a : Act} {w : World} (ho : ops[i]? = some o) (hw : Region.wanted o (yielded ops a.tmps) = true) (h : ∀ K' : Act → World → Prop, (∀ a w, K a w → K' a w) → o.wp P a w K' Q) : wpOp P ops Q i K a w := by
  simp only [wpOp, ho, hw, if_true]
  exact .inl (h K fun _ _ h => h)

/-- A rule's name is written. -/
theorem rules_put {B : Nat} {w : World} {b1 : Option Addr} {d1 : Nat} {rs : List Rl} (h : FreshRules B w b1 d1 rs) {i : Nat} (hi : i < rs.length) :
    ∃ R, b1 = some ⟨R, 0, none⟩ ∧ B ≤ R ∧ (∃ cur, w.heap[R]? = some (.cells cur 46 (0, 0))) ∧ w.cell? ⟨R, i * 2, none⟩ = some (.string rs[i].name) ∧ w.frozen? ⟨R, i * 2, none⟩ = false ∧
      ∀ nm, FreshRules B (w.setCell ⟨R, i * 2, none⟩ (.string nm)) b1 d1 (rs.set i ⟨nm, rs[i].body⟩) ∧ Chg [R] w (w.setCell ⟨R, i * 2, none⟩ (.string nm)) := by
  rcases h.2 with ⟨h0, h1⟩ | ⟨R, cap, cur, h0, hb, hg, hn, hcm, hcs, ht⟩
  · omega
  have hK : b1 = some ⟨R, 0, none⟩ := by injection h0
  have hcap : cap = d1 := by injection h0 with _ _ h0; exact h0.symm
  subst hcap
  subst hK
  have hcell : ∀ (j : Nat) (u : Value), (rulesCells rs)[j]? = some u → cur[j]? = some u := by
    intro j u hu
    rw [← ht, List.getElem?_take] at hu
    split at hu
    · simpa using hu
    · cases hu
  refine ⟨R, rfl, hb, ⟨cur, hg⟩, ?_, free_of_cells hg _, fun nm => ⟨?_, (Chg.refl [R] w).setCell (p := ⟨R, i * 2, none⟩) (.inl (by simp)) _⟩⟩
  · rw [cell_of_cells hg]
    refine hcell _ _ ?_
    have := flat_get Rl.cells 2 (fun _ => rfl) rs i 0 (by decide)
    rw [Nat.add_zero, List.getElem?_eq_getElem hi, Option.bind_some] at this
    exact this
  · refine ⟨by rw [rulesCells_len], .inr ⟨R, cap, _, by rw [List.length_set], hb, heap_setCell_same hg _ _, by rw [List.length_set]; exact hn, hcm, by simpa using hcs, ?_⟩⟩
    rw [Array.toList_setIfInBounds, List.take_set, List.length_set, ht]
    apply List.ext_getElem?
    intro j
    have e2 : j = j / 2 * 2 + j % 2 := by omega
    have hr2 : j % 2 < 2 := Nat.mod_lt _ (by decide)
    have hnew := flat_get Rl.cells 2 (fun _ => rfl) (rs.set i ⟨nm, rs[i].body⟩) (j / 2) (j % 2) hr2
    have hold := flat_get Rl.cells 2 (fun _ => rfl) rs (j / 2) (j % 2) hr2
    rw [← e2] at hnew hold
    rw [show rulesCells (rs.set i ⟨nm, rs[i].body⟩) = (rs.set i ⟨nm, rs[i].body⟩).flatMap Rl.cells from rfl, hnew, List.getElem?_set, List.getElem?_set]
    have hl : (rulesCells rs).length = rs.length * 2 := rulesCells_len rs
    by_cases hij : i = j / 2
    · subst hij
      rw [if_pos rfl, if_pos hi, Option.bind_some]
      by_cases hm : j % 2 = 0
      · have e3 : j / 2 * 2 = j := by omega
        rw [if_pos e3, if_pos (by rw [hl]; omega), hm]; rfl
      · have hm1 : j % 2 = 1 := by omega
        rw [if_neg (by omega)]
        rw [show (rulesCells rs)[j]? = _ from hold, List.getElem?_eq_getElem hi, Option.bind_some, hm1]; rfl
    · rw [if_neg hij, if_neg (by omega)]
      exact hold
theorem FreshRules.drew {B : Nat} {w : World} {a : Option Addr} {c : Nat} {rs : List Rl} (h : FreshRules B w a c rs) : FreshRules B w.drew a c rs := ((Chg.refl [] w).drew).row h (fun _ _ => by simp)
/-- The first i rules have the other's names. -/
def NamedTo (xr gr : List Rl) (i : Nat) (L : List Rl) : Prop := L.length = xr.length ∧ ∀ j (h : j < L.length) (h1 : j < xr.length) (h2 : j < gr.length), L[j] = if j < i then ⟨gr[j].name, xr[j].body⟩ else xr[j]
theorem namedTo_start (xr gr : List Rl) : NamedTo xr gr 0 xr := ⟨rfl, fun j h h1 h2 => by rw [if_neg (by omega)]⟩
theorem namedTo_next {xr gr L : List Rl} {i : Nat} (h : NamedTo xr gr i L) (hl : xr.length = gr.length) (hi : i < L.length) (hg : i < gr.length) : NamedTo xr gr (i + 1) (L.set i ⟨gr[i].name, L[i].body⟩) := by
  refine ⟨by rw [List.length_set]; exact h.1, fun j h0 h1 h2 => ?_⟩
  have h0' : j < L.length := by simpa using h0
  rw [List.getElem_set]
  by_cases hij : i = j
  · subst hij
    rw [if_pos rfl, if_pos (by omega), h.2 i h0' h1 h2, if_neg (by omega)]
  · rw [if_neg hij, h.2 j h0' h1 h2]
    by_cases hj : j < i
    · rw [if_pos hj, if_pos (by omega)]
    · rw [if_neg hj, if_neg (by omega)]
theorem namedTo_end {xr gr L : List Rl} {i : Nat} (h : NamedTo xr gr i L) (hl : xr.length = gr.length) (hi : gr.length ≤ i) : L = wrapR gr (xr.map (·.body)) := by
  apply List.ext_getElem
  · simp [wrapR, h.1, hl]
  · intro j h1 h2
    have := h.2 j h1 (by have := h.1; omega) (by have := h.1; omega)
    rw [if_pos (by have := h.1; omega)] at this
    rw [this]
    simp [wrapR]

end Go.Proofs.Ytibgfgfmljhimaa
