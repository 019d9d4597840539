/-
  Rows of grammars, each in memory of its own; how cells of a grammar of one's own are written, how its rows are cut.
  Conditions: none.
-/
import Derived.Test.YtibgfgfmljhimaaGMake
import Derived.Test.YtibgfgfmljhimaaKB4
import Derived.Test.YtibgfgfmljhimaaGAw
set_option linter.unusedVariables false
set_option linter.unusedSimpArgs false
set_option linter.unnecessarySimpa false
namespace Go.Proofs.Ytibgfgfmljhimaa
open Go.RowKit Go.MapKept Go.Shelf

/-- A cell of a row of one's own is written. -/
theorem row_put {w : World} {B e size n c g : Nat} {xs : List Value} (h : w.ownsRow B e size (.slice (some ⟨g, 0, none⟩) n c) n xs) {i : Nat} (hi : i < n * size) :
    w.cell? ⟨g, i, none⟩ = xs[i]? ∧ w.frozen? ⟨g, i, none⟩ = false ∧ B ≤ g ∧ (∃ cur, w.heap[g]? = some (.cells cur e (0, 0))) ∧
      ∀ u, (w.setCell ⟨g, i, none⟩ u).ownsRow B e size (.slice (some ⟨g, 0, none⟩) n c) n (xs.set i u) ∧ Chg [g] w (w.setCell ⟨g, i, none⟩ u) := by
  have hl := h.1
  rcases h.2 with ⟨h0, h1⟩ | ⟨g, cap, cur, h0, hb, hg, hn, hcm, hcs, ht⟩
  · cases h0
  cases h0
  refine ⟨?_, free_of_cells hg _, hb, ⟨cur, hg⟩, fun u => ⟨⟨by rw [List.length_set]; exact hl, .inr ⟨g, c, _, rfl, hb, heap_setCell_same hg _ _, hn, hcm, by simpa using hcs, ?_⟩⟩, (Chg.refl [g] w).setCell (p := ⟨g, i, none⟩) (.inl (by simp)) _⟩⟩
  · rw [cell_of_cells hg, ← ht, List.getElem?_take, if_pos hi]
    simp
  · rw [Array.toList_setIfInBounds, List.take_set, ht]
/-- A row's first elements. -/
theorem row_take {w : World} {B e size n c : Nat} {b : Option Addr} {xs : List Value} (h : w.ownsRow B e size (.slice b n c) n xs) {m : Nat} (hm : m ≤ n) (hbn : b ≠ none) :
    w.ownsRow B e size (.slice b m c) m (xs.take (m * size)) := by
  have hl := h.1
  rcases h.2 with ⟨h0, h1⟩ | ⟨g, cap, cur, h0, hbg, hg, hn, hcm, hcs, ht⟩
  · cases h0
    exact absurd rfl hbn
  cases h0
  have hms : m * size ≤ n * size := Nat.mul_le_mul_right _ hm
  refine ⟨by rw [List.length_take, hl]; omega, .inr ⟨g, c, cur, rfl, hbg, hg, by omega, hcm, hcs, ?_⟩⟩
  rw [← ht, List.take_take, Nat.min_eq_left hms]
theorem flat_take {α β : Type} (f : α → List β) (m : Nat) (hf : ∀ a, (f a).length = m) : ∀ (l : List α) (k : Nat), (l.take k).flatMap f = (l.flatMap f).take (k * m)
  | [], k => by simp
  | a :: l, 0 => by simp
  | a :: l, k + 1 => by
    have e1 : (k + 1) * m - m = k * m := by rw [Nat.add_mul]; omega
    have e2 : (f a).take ((k + 1) * m) = f a := List.take_of_length_le (by rw [hf, Nat.add_mul]; omega)
    rw [List.take_succ_cons, List.flatMap_cons, List.flatMap_cons, flat_take f m hf l k, List.take_append, hf, e1, e2]
theorem OwnN.taken {B : Nat} {w : World} {b2 : Option Addr} {d2 : Nat} {L : List Cp} (h : OwnN B w b2 d2 L) {m : Nat} (hm : m ≤ L.length) (hb : b2 ≠ none) : OwnN B w b2 d2 (L.take m) := by
  refine ⟨?_, fun p hp => h.kids p (List.mem_of_mem_take hp), h.apart.sublist (List.take_sublist m L)⟩
  have := row_take h.nodes hm hb
  rw [List.length_take, Nat.min_eq_left hm, show nodesCells (L.take m) = (nodesCells L).take (m * 9) from flat_take Cp.cells 9 cp_len L m]
  exact this
theorem FreshRules.taken {B : Nat} {w : World} {b1 : Option Addr} {d1 : Nat} {rs : List Rl} (h : FreshRules B w b1 d1 rs) {m : Nat} (hm : m ≤ rs.length) (hb : b1 ≠ none) : FreshRules B w b1 d1 (rs.take m) := by
  have := row_take h hm hb
  rw [FreshRules, List.length_take, Nat.min_eq_left hm, show rulesCells (rs.take m) = (rulesCells rs).take (m * 2) from flat_take Rl.cells 2 (fun _ => rfl) rs m]
  exact this
/-- A rule's body is written. -/
theorem rulesCells_body : ∀ (rs : List Rl) (i : Nat) (hi : i < rs.length) (v : Int), (rulesCells rs).set (i * 2 + 1) (.int .i64 v) = rulesCells (rs.set i ⟨rs[i].name, v⟩)
  | r :: rs, 0, _, v => rfl
  | r :: rs, i + 1, hi, v => by
    have ih := rulesCells_body rs i (by simpa using hi) v
    simp only [rulesCells, List.flatMap_cons, List.set_cons_succ, List.getElem_cons_succ] at ih ⊢
    rw [List.set_append_right _ _ (by show 2 ≤ _; omega), show (i + 1) * 2 + 1 - (Rl.cells r).length = i * 2 + 1 by show (i + 1) * 2 + 1 - 2 = _; omega, ih]
theorem body_put {B : Nat} {w : World} {R d1 : Nat} {rs : List Rl} (h : FreshRules B w (some ⟨R, 0, none⟩) d1 rs) {i : Nat} (hi : i < rs.length) :
    w.cell? ⟨R, i * 2 + 1, none⟩ = some (.int .i64 rs[i].body) ∧ w.frozen? ⟨R, i * 2 + 1, none⟩ = false ∧ B ≤ R ∧ (∃ cur, w.heap[R]? = some (.cells cur 46 (0, 0))) ∧
      ∀ v, FreshRules B (w.setCell ⟨R, i * 2 + 1, none⟩ (.int .i64 v)) (some ⟨R, 0, none⟩) d1 (rs.set i ⟨rs[i].name, v⟩) ∧ Chg [R] w (w.setCell ⟨R, i * 2 + 1, none⟩ (.int .i64 v)) := by
  obtain ⟨h1, h2, h3, h4, h5⟩ := row_put h (i := i * 2 + 1) (by omega)
  refine ⟨?_, h2, h3, h4, fun v => ⟨?_, (h5 _).2⟩⟩
  · rw [h1]
    have := flat_get Rl.cells 2 (fun _ => rfl) rs i 1 (by decide)
    rw [List.getElem?_eq_getElem hi, Option.bind_some] at this
    exact this
  · have := (h5 (.int .i64 v)).1
    rw [rulesCells_body rs i hi] at this
    rw [FreshRules, List.length_set]
    exact this
/-- A node's rule is written. -/
def Nd.setR (x : Nd) (r : Int) : Nd := { x with r := r }
def Cp.setR (p : Cp) (r : Int) : Cp := (p.1.setR r, p.2.1, p.2.2)
theorem setR_cells (p : Cp) (r : Int) : (p.setR r).cells = p.cells.set 6 (.int .i64 r) := rfl
theorem nodesCells_setR : ∀ (L : List Cp) (i : Nat) (hi : i < L.length) (r : Int), (nodesCells L).set (i * 9 + 6) (.int .i64 r) = nodesCells (L.set i (L[i].setR r))
  | p :: L, 0, _, r => by
    simp only [nodesCells, List.flatMap_cons, List.set_cons_zero, List.getElem_cons_zero, Nat.zero_mul, Nat.zero_add]
    rw [List.set_append_left _ _ (by rw [cp_len]; omega), setR_cells]
  | p :: L, i + 1, hi, r => by
    have ih := nodesCells_setR L i (by simpa using hi) r
    simp only [nodesCells, List.flatMap_cons, List.set_cons_succ, List.getElem_cons_succ] at ih ⊢
    rw [List.set_append_right _ _ (by rw [cp_len]; omega), cp_len, show (i + 1) * 9 + 6 - 9 = i * 9 + 6 by omega, ih]
theorem OwnN.rPut {B : Nat} {w : World} {G d2 : Nat} {L : List Cp} (h : OwnN B w (some ⟨G, 0, none⟩) d2 L) {i : Nat} (hi : i < L.length) :
    w.cell? ⟨G, i * 9 + 6, none⟩ = some (.int .i64 L[i].1.r) ∧ w.frozen? ⟨G, i * 9 + 6, none⟩ = false ∧ B ≤ G ∧ (∃ cur, w.heap[G]? = some (.cells cur 32 (0, 0))) ∧
      ∀ v, OwnN B (w.setCell ⟨G, i * 9 + 6, none⟩ (.int .i64 v)) (some ⟨G, 0, none⟩) d2 (L.set i (L[i].setR v)) ∧ Chg [G] w (w.setCell ⟨G, i * 9 + 6, none⟩ (.int .i64 v)) := by
  obtain ⟨h1, h2, h3, ⟨cur, h4⟩, h5⟩ := row_put h.nodes (i := i * 9 + 6) (by omega)
  refine ⟨?_, h2, h3, ⟨cur, h4⟩, fun v => ⟨⟨?_, ?_, ?_⟩, (h5 _).2⟩⟩
  · rw [h1]
    have := flat_get Cp.cells 9 cp_len L i 6 (by decide)
    rw [List.getElem?_eq_getElem hi, Option.bind_some] at this
    exact this
  · have := (h5 (.int .i64 v)).1
    rw [nodesCells_setR L i hi] at this
    rw [List.length_set]
    exact this
  · intro p hp
    have hN : ∀ k ∈ [G], NotRow w 3 k := fun k hk => by simp only [List.mem_singleton] at hk; subst hk; exact .of_cells h4 (by decide)
    rcases List.mem_or_eq_of_mem_set hp with hp | rfl
    · exact (h5 _).2.rowOf (h.kids p hp) hN
    · exact (show FreshInts B _ L[i].2.1 L[i].2.2 L[i].1.kids from (h5 _).2.rowOf (h.kids _ (List.getElem_mem hi)) hN)
  · rw [List.pairwise_iff_getElem]
    intro a b ha hb hab x y hx hy
    have ha' : a < L.length := by simpa using ha
    have hb' : b < L.length := by simpa using hb
    have key : ∀ c (hc : c < L.length) (hc' : c < (L.set i (L[i].setR v)).length), ((L.set i (L[i].setR v))[c]).own = L[c].own := by
      intro c hc hc'
      rw [List.getElem_set]
      split
      · rename_i hic; subst hic; rfl
      · rfl
    rw [key a ha' ha] at hx
    rw [key b hb' hb] at hy
    exact List.pairwise_iff_getElem.1 h.apart a b ha' hb' hab x y hx hy

/-! ### Rows of grammars -/
structure GP where
  b1 : Option Addr
  d1 : Nat
  b2 : Option Addr
  d2 : Nat
  g : Gr
def GP.cells (p : GP) : List Value := [.slice p.b1 p.g.rules.length p.d1, .slice p.b2 p.g.nodes.length p.d2]
def GP.Ok (w : World) (p : GP) : Prop := ∃ L : List Cp, L.map (·.1) = p.g.nodes ∧ FreshRules 0 w p.b1 p.d1 p.g.rules ∧ OwnN 0 w p.b2 p.d2 L ∧ p.g.Wf ∧ Reach p.g
theorem GP.Ok.chg {w w' : World} {S : List Nat} {p : GP} (h : p.Ok w) (hc : Chg S w w') (hS : ∀ k ∈ S, NotRow w 46 k ∧ NotRow w 32 k ∧ NotRow w 3 k) : p.Ok w' := by
  obtain ⟨L, h1, h2, h3, h4, h5⟩ := h
  exact ⟨L, h1, hc.rowOf h2 (fun k hk => (hS k hk).1), h3.chg hc (fun k hk => (hS k hk).2), h4, h5⟩
theorem GP.Ok.chg0 {w w' : World} {p : GP} (h : p.Ok w) (hc : Chg [] w w') : p.Ok w' := h.chg hc (by simp)
theorem GP.Ok.gram {w : World} {p : GP} (h : p.Ok w) : GramAt w p.b1 p.g.rules.length p.d1 p.b2 p.g.nodes.length p.d2 p.g := by
  obtain ⟨L, h1, h2, h3, h4, h5⟩ := h
  obtain ⟨k1, k2, k3, k4⟩ := rules_row h2
  obtain ⟨m1, m2, m3⟩ := h3.read
  have hl : L.length = p.g.nodes.length := by rw [← h1, List.length_map]
  rw [hl] at m2
  rw [h1] at m1
  exact ⟨rfl, k3, k4, k1, rfl, m2, m3, m1, h4⟩
theorem gp_len (p : GP) : p.cells.length = 2 := rfl
def gpCells (L : List GP) : List Value := L.flatMap GP.cells
structure GRow (B : Nat) (w : World) (a : Option Addr) (n c : Nat) (L : List GP) : Prop where
  len : n = L.length
  row : w.ownsRow B 25 2 (.slice a n c) n (gpCells L)
  ok : ∀ p ∈ L, p.Ok w
theorem GRow.chg0 {B : Nat} {w w' : World} {a : Option Addr} {n c : Nat} {L : List GP} (h : GRow B w a n c L) (hc : Chg [] w w') : GRow B w' a n c L :=
  ⟨h.len, hc.row h.row (fun _ _ => by simp), fun p hp => (h.ok p hp).chg0 hc⟩
/-- Blocks below B, no rows of rules, nodes, numbers, are written. -/
theorem GRow.under {B : Nat} {w w' : World} {S : List Nat} {a : Option Addr} {n c : Nat} {L : List GP} (h : GRow B w a n c L) (hc : Chg S w w') (h1 : ∀ k ∈ S, k < B) (h2 : ∀ k ∈ S, NotRow w 46 k ∧ NotRow w 32 k ∧ NotRow w 3 k) : GRow B w' a n c L :=
  ⟨h.len, hc.row h.row (fun k hk hm => by have := (row_beyond h.row hk).1; have := h1 k hm; omega), fun p hp => (h.ok p hp).chg hc h2⟩
theorem GRow.snoc {B : Nat} {w w' : World} {a : Option Addr} {n c : Nat} {L : List GP} (h : GRow B w a n c L) {p : GP} (hp : p.Ok w) {a' : Option Addr} {c' : Nat}
    (hr : w'.ownsRow B 25 2 (.slice a' (n + 1) c') (n + 1) (gpCells L ++ p.cells)) (hg : w.grownBy w' (Value.slice a n c).ownBlock) : GRow B w' a' (n + 1) c' (L ++ [p]) ∧ ∀ B0, B0 ≤ B → ∀ w0, Chg [] w0 w → w0.heap.size ≤ B → Chg [] w0 w' := by
  have hc : Chg (Value.slice a n c).ownBlock.toList w w' := (Chg.refl _ w).grown hg (fun k hk => .inl (by rw [hk]; simp))
  have hS : ∀ k ∈ (Value.slice a n c).ownBlock.toList, NotRow w 46 k ∧ NotRow w 32 k ∧ NotRow w 3 k := by
    intro k hk
    simp only [Option.mem_toList] at hk
    exact ⟨row_notrow h.row hk (by decide), row_notrow h.row hk (by decide), row_notrow h.row hk (by decide)⟩
  refine ⟨⟨by rw [List.length_append, ← h.len]; rfl, ?_, fun q hq => ?_⟩, fun B0 _ w0 h0 hB => h0.grown hg (fun k hk => .inr (by have := (row_beyond h.row hk).1; omega))⟩
  · rw [show gpCells (L ++ [p]) = gpCells L ++ p.cells by simp [gpCells]]
    exact hr
  · rcases List.mem_append.1 hq with hq | hq
    · exact (h.ok q hq).chg hc hS
    · simp only [List.mem_singleton] at hq
      subst hq
      exact hp.chg hc hS
/-- How an element reads. -/
theorem GRow.at {B : Nat} {w : World} {a : Option Addr} {n c : Nat} {L : List GP} (h : GRow B w a n c L) {i : Nat} (hi : i < n) :
    ∃ (G : Nat) (a1 : Option Addr) (n1 c1 : Nat) (a2 : Option Addr) (n2 c2 : Nat) (g : Gr), a = some ⟨G, 0, none⟩ ∧ w.cell? ⟨G, i * 2, none⟩ = some (.slice a1 n1 c1) ∧ w.cell? ⟨G, i * 2 + 1, none⟩ = some (.slice a2 n2 c2) ∧ GramAt w a1 n1 c1 a2 n2 c2 g ∧ Reach g := by
  have hiL : i < L.length := by have := h.len; omega
  have hr := h.row
  have hb : ∃ G, a = some ⟨G, 0, none⟩ := by
    rcases hr.2 with ⟨h0, h1⟩ | ⟨g, cap, cur, h0, _⟩
    · omega
    · cases h0; exact ⟨g, rfl⟩
  obtain ⟨G, rfl⟩ := hb
  have c0 := (row_put hr (i := i * 2) (by omega)).1
  have c1 := (row_put hr (i := i * 2 + 1) (by omega)).1
  have e0 := flat_get GP.cells 2 gp_len L i 0 (by decide)
  have e1 := flat_get GP.cells 2 gp_len L i 1 (by decide)
  rw [List.getElem?_eq_getElem hiL, Option.bind_some] at e0 e1
  rw [Nat.add_zero] at e0
  obtain ⟨_, _, _, _, _, h5⟩ := h.ok _ (List.getElem_mem hiL)
  exact ⟨G, _, _, _, _, _, _, L[i].g, rfl, c0.trans e0, c1.trans e1, (h.ok _ (List.getElem_mem hiL)).gram, h5⟩
end Go.Proofs.Ytibgfgfmljhimaa
