/-
  The kit: a copy of a grammar in rows of its own; a node of it put for another.
  Conditions: the grammar reads as data; it is small.
-/
import Derived.Test.YtibgfgfmljhimaaGreatWe9KB3
import Derived.Test.YtibgfgfmljhimaaGreatWe9GAft
import Derived.Test.YtibgfgfmljhimaaGreatWe9WeA
import Derived.Test.YtibgfgfmljhimaaGreatWe9Ln2
set_option linter.unusedVariables false
set_option linter.unusedSimpArgs false
set_option linter.unnecessarySimpa false
namespace Go.Proofs.YtibgfgfmljhimaaGreat
open Go.RowKit Go.MapKept Go.Shelf

/-- Nine cells of a node's row. -/
def set9 (w : World) (G o : Nat) (u0 u1 u2 u3 u4 u5 u6 u7 u8 : Value) : World :=
  ((((((((w.setCell ⟨G, o, none⟩ u0).setCell ⟨G, o + 1, none⟩ u1).setCell ⟨G, o + 2, none⟩ u2).setCell ⟨G, o + 3, none⟩ u3).setCell ⟨G, o + 4, none⟩ u4).setCell ⟨G, o + 5, none⟩ u5).setCell ⟨G, o + 6, none⟩ u6).setCell ⟨G, o + 7, none⟩ u7).setCell ⟨G, o + 8, none⟩ u8
/-- A node without kids is put. -/
theorem OwnN.put {B : Nat} {w : World} {G d2 : Nat} {L : List Cp} (h : OwnN B w (some ⟨G, 0, none⟩) d2 L) {i : Nat} (hi : i < L.length) {y : Nd} (hy : y.kids = []) :
    OwnN B (set9 w G (i * 9) (.int .i64 y.k) (.int .u64 y.c0) (.int .u64 y.c1) (.int .u64 y.c2) (.int .u64 y.c3) (.string y.s) (.int .i64 y.r) (.int .i64 y.l) (.slice none 0 0)) (some ⟨G, 0, none⟩) d2 (L.set i (y, none, 0)) ∧
    Chg [G] w (set9 w G (i * 9) (.int .i64 y.k) (.int .u64 y.c0) (.int .u64 y.c1) (.int .u64 y.c2) (.int .u64 y.c3) (.string y.s) (.int .i64 y.r) (.int .i64 y.l) (.slice none 0 0)) := by
  have hc : Chg [G] w (set9 w G (i * 9) (.int .i64 y.k) (.int .u64 y.c0) (.int .u64 y.c1) (.int .u64 y.c2) (.int .u64 y.c3) (.string y.s) (.int .i64 y.r) (.int .i64 y.l) (.slice none 0 0)) := by
    unfold set9
    exact (((((((((Chg.refl [G] w).setCell (p := ⟨G, i * 9, none⟩) (.inl (by simp)) _).setCell (p := ⟨G, i * 9 + 1, none⟩) (.inl (by simp)) _).setCell (p := ⟨G, i * 9 + 2, none⟩) (.inl (by simp)) _).setCell (p := ⟨G, i * 9 + 3, none⟩) (.inl (by simp)) _).setCell (p := ⟨G, i * 9 + 4, none⟩) (.inl (by simp)) _).setCell (p := ⟨G, i * 9 + 5, none⟩) (.inl (by simp)) _).setCell (p := ⟨G, i * 9 + 6, none⟩) (.inl (by simp)) _).setCell (p := ⟨G, i * 9 + 7, none⟩) (.inl (by simp)) _).setCell (p := ⟨G, i * 9 + 8, none⟩) (.inl (by simp)) _
  rcases h.nodes.2 with ⟨h0, h1⟩ | ⟨g, cap, cur, h0, hb, hg, hn, hcm, hcs, ht⟩
  · cases h0
  cases h0
  have hN : ∀ k ∈ [G], NotRow w 3 k := fun k hk => by simp only [List.mem_singleton] at hk; subst hk; exact .of_cells hg (by decide)
  have hend : (set9 w G (i * 9) (.int .i64 y.k) (.int .u64 y.c0) (.int .u64 y.c1) (.int .u64 y.c2) (.int .u64 y.c3) (.string y.s) (.int .i64 y.r) (.int .i64 y.l) (.slice none 0 0)).heap[G]? =
      some (.cells (((((((((cur.setIfInBounds (i * 9) (.int .i64 y.k)).setIfInBounds (i * 9 + 1) (.int .u64 y.c0)).setIfInBounds (i * 9 + 2) (.int .u64 y.c1)).setIfInBounds (i * 9 + 3) (.int .u64 y.c2)).setIfInBounds (i * 9 + 4) (.int .u64 y.c3)).setIfInBounds (i * 9 + 5) (.string y.s)).setIfInBounds (i * 9 + 6) (.int .i64 y.r)).setIfInBounds (i * 9 + 7) (.int .i64 y.l)).setIfInBounds (i * 9 + 8) (.slice none 0 0)) 53 (0, 0)) := by
    unfold set9
    exact heap_setCell_same (heap_setCell_same (heap_setCell_same (heap_setCell_same (heap_setCell_same (heap_setCell_same (heap_setCell_same (heap_setCell_same (heap_setCell_same hg _ _) _ _) _ _) _ _) _ _) _ _) _ _) _ _) _ _
  refine ⟨⟨⟨by rw [nodesCells_len, List.length_set], .inr ⟨G, d2, _, by rw [List.length_set], hb, hend, by rw [List.length_set]; exact hn, hcm, by simpa using hcs, ?_⟩⟩, ?_, ?_⟩, hc⟩
  · rw [List.length_set]
    have hcl : L.length * 9 ≤ cur.size := by rw [hcs]; omega
    apply List.ext_getElem?
    intro j
    rw [List.getElem?_take]
    by_cases hj : j < L.length * 9
    · rw [if_pos hj]
      have e9 : j = j / 9 * 9 + j % 9 := by omega
      have hr9 : j % 9 < 9 := Nat.mod_lt _ (by decide)
      have hq : j / 9 < L.length := by omega
      have hold : cur[j]? = (L[j / 9]'hq).cells[j % 9]? := by
        have h1 := flat_get Cp.cells 9 cp_len L (j / 9) (j % 9) hr9
        rw [List.getElem?_eq_getElem hq, Option.bind_some, ← e9] at h1
        have h2 : (nodesCells L)[j]? = (L[j / 9]'hq).cells[j % 9]? := h1
        rw [← ht, List.getElem?_take, if_pos hj] at h2
        simpa using h2
      have hnew := flat_get Cp.cells 9 cp_len (L.set i (y, none, 0)) (j / 9) (j % 9) hr9
      rw [← e9] at hnew
      have hnew' : (nodesCells (L.set i (y, none, 0)))[j]? = ((L.set i (y, none, 0))[j / 9]?).bind fun a => a.cells[j % 9]? := hnew
      rw [hnew', List.getElem?_set]
      by_cases hij : i = j / 9
      · rw [if_pos hij, if_pos hi, Option.bind_some]
        have hjj : j = i * 9 + j % 9 := by rw [hij]; exact e9
        have hsz : j < cur.size := by omega
        simp only [Array.getElem?_toList, Array.getElem?_setIfInBounds, Array.size_setIfInBounds, Cp.cells, Nd.cells, hy, List.length_nil]
        rcases (show j % 9 = 0 ∨ j % 9 = 1 ∨ j % 9 = 2 ∨ j % 9 = 3 ∨ j % 9 = 4 ∨ j % 9 = 5 ∨ j % 9 = 6 ∨ j % 9 = 7 ∨ j % 9 = 8 by omega) with hm | hm | hm | hm | hm | hm | hm | hm | hm <;> rw [hm] at hjj ⊢ <;> subst hjj <;> simp <;> omega
      · rw [if_neg hij, List.getElem?_eq_getElem hq, Option.bind_some, ← hold]
        have hne : ∀ r, r < 9 → i * 9 + r ≠ j := fun r hr e => hij (by omega)
        simp only [Array.getElem?_toList, Array.getElem?_setIfInBounds, hne 8 (by decide), hne 7 (by decide), hne 6 (by decide), hne 5 (by decide), hne 4 (by decide), hne 3 (by decide), hne 2 (by decide), hne 1 (by decide), if_false]
        rw [if_neg (by have := hne 0 (by decide); omega)]
    · rw [if_neg hj, List.getElem?_eq_none (by rw [nodesCells_len, List.length_set]; omega)]
  · intro p hp
    rcases List.mem_or_eq_of_mem_set hp with hp | rfl
    · exact hc.rowOf (h.kids p hp) hN
    · rw [show FreshInts B _ none 0 y.kids ↔ FreshInts B _ none 0 [] by rw [hy]]
      exact World.ownsRow_nil _ _ _ _
  · rw [List.pairwise_iff_getElem]
    intro a b ha hb2 hab x z hx hz
    have ha' : a < L.length := by simpa using ha
    have hb' : b < L.length := by simpa using hb2
    rw [List.getElem_set] at hx hz
    have hown : ∀ k, (Cp.own (y, none, 0)) = some k → False := fun k hk => by simp [Cp.own, hy, Value.ownBlock] at hk
    split at hx
    · exact (hown _ hx).elim
    · split at hz
      · exact (hown _ hz).elim
      · exact List.pairwise_iff_getElem.1 h.apart a b ha' hb' hab x z hx hz
/-- A rule's name is written. -/
theorem rules_put {B : Nat} {w : World} {b1 : Option Addr} {d1 : Nat} {rs : List Rl} (h : FreshRules B w b1 d1 rs) {i : Nat} (hi : i < rs.length) :
    ∃ R, b1 = some ⟨R, 0, none⟩ ∧ B ≤ R ∧ (∃ cur, w.heap[R]? = some (.cells cur 43 (0, 0))) ∧ w.cell? ⟨R, i * 2, none⟩ = some (.string rs[i].name) ∧ w.frozen? ⟨R, i * 2, none⟩ = false ∧
      ∀ nm, FreshRules B (w.setCell ⟨R, i * 2, none⟩ (.string nm)) b1 d1 (rs.set i ⟨nm, rs[i].body⟩) ∧ Chg [R] w (w.setCell ⟨R, i * 2, none⟩ (.string nm)) := by
  rcases h.2 with ⟨h0, h1⟩ | ⟨R, cap, cur, h0, hb, hg, hn, hcm, hcs, ht⟩
  · omega
  have hK : b1 = some ⟨R, 0, none⟩ := by injection h0
  have hcap : cap = d1 := by injection h0 with _ _ h0; exact h0.symm
  subst hcap
  subst hK
  have hcell : ∀ (j : Nat) (u : Value), (rulesCells rs)[j]? = some u → cur[j]? = some u := by
    intro j u hu
    rw [← ht, List.getElem?_take] at hu
    split at hu
    · simpa using hu
    · cases hu
  refine ⟨R, rfl, hb, ⟨cur, hg⟩, ?_, free_of_cells hg _, fun nm => ⟨?_, (Chg.refl [R] w).setCell (p := ⟨R, i * 2, none⟩) (.inl (by simp)) _⟩⟩
  · rw [cell_of_cells hg]
    refine hcell _ _ ?_
    have := flat_get Rl.cells 2 (fun _ => rfl) rs i 0 (by decide)
    rw [Nat.add_zero, List.getElem?_eq_getElem hi, Option.bind_some] at this
    exact this
  · refine ⟨by rw [rulesCells_len], .inr ⟨R, cap, _, by rw [List.length_set], hb, heap_setCell_same hg _ _, by rw [List.length_set]; exact hn, hcm, by simpa using hcs, ?_⟩⟩
    rw [Array.toList_setIfInBounds, List.take_set, List.length_set, ht]
    apply List.ext_getElem?
    intro j
    have e2 : j = j / 2 * 2 + j % 2 := by omega
    have hr2 : j % 2 < 2 := Nat.mod_lt _ (by decide)
    have hnew := flat_get Rl.cells 2 (fun _ => rfl) (rs.set i ⟨nm, rs[i].body⟩) (j / 2) (j % 2) hr2
    have hold := flat_get Rl.cells 2 (fun _ => rfl) rs (j / 2) (j % 2) hr2
    rw [← e2] at hnew hold
    rw [show rulesCells (rs.set i ⟨nm, rs[i].body⟩) = (rs.set i ⟨nm, rs[i].body⟩).flatMap Rl.cells from rfl, hnew, List.getElem?_set, List.getElem?_set]
    have hl : (rulesCells rs).length = rs.length * 2 := rulesCells_len rs
    by_cases hij : i = j / 2
    · subst hij
      rw [if_pos rfl, if_pos hi, Option.bind_some]
      by_cases hm : j % 2 = 0
      · have e3 : j / 2 * 2 = j := by omega
        rw [if_pos e3, if_pos (by rw [hl]; omega), hm]; rfl
      · have hm1 : j % 2 = 1 := by omega
        rw [if_neg (by omega)]
        rw [show (rulesCells rs)[j]? = _ from hold, List.getElem?_eq_getElem hi, Option.bind_some, hm1]; rfl
    · rw [if_neg hij, if_neg (by omega)]
      exact hold
theorem FreshRules.drew {B : Nat} {w : World} {a : Option Addr} {c : Nat} {rs : List Rl} (h : FreshRules B w a c rs) : FreshRules B w.drew a c rs := ((Chg.refl [] w).drew).row h (fun _ _ => by simp)
end Go.Proofs.YtibgfgfmljhimaaGreat
set_option linter.unusedVariables false
set_option linter.unusedSimpArgs false
namespace Go.Proofs.YtibgfgfmljhimaaGreat
open Go.RowKit Go.MapKept Go.Shelf

def smallB (ns : List Nd) : Bool := decide (ns.length ≤ 3000) && !ns.isEmpty && ns.all fun x => decide (x.kids.length ≤ 3000) && x.kids.all fun z => decide (-100000 ≤ z) && decide (z ≤ 100000)
theorem small_of {ns : List Nd} (h : smallB ns = true) : Small ns := by
  simp only [smallB, Bool.and_eq_true, decide_eq_true_eq, Bool.not_eq_true', List.all_eq_true] at h
  exact ⟨h.1.1, fun e => by rw [e] at h; simp at h, fun x hx => ⟨(h.2 x hx).1, fun z hz => (h.2 x hx).2 z hz⟩⟩
def wfB (g : Gr) : Bool := (g.nodes.all fun x => decide (I64 x.k) && decide (I64 x.r) && decide (I64 x.l) && (x.kids.all fun z => decide (I64 z)) && decide (x.s.size ≤ maxLen)) && g.rules.all fun r => decide (r.name.size ≤ maxLen) && decide (I64 r.body)
theorem wf_of {g : Gr} (h : wfB g = true) : g.Wf := by
  simp only [wfB, Bool.and_eq_true, decide_eq_true_eq, List.all_eq_true] at h
  exact ⟨fun x hx => ⟨(h.1 x hx).1.1.1.1, (h.1 x hx).1.1.1.2, (h.1 x hx).1.1.2, (h.1 x hx).1.2, (h.1 x hx).2⟩, fun r hr => (h.2 r hr).1, fun r hr => (h.2 r hr).2⟩
theorem NewGramRows.new {w : World} {g : Gr} {e : Ending} {w' : World} (h : NewGramRows w g e w') (wf : g.Wf) : NewGram w g e w' := by
  obtain ⟨a1, c1, a2, c2, L, h1, h2, h3, h4, h5⟩ := h
  obtain ⟨k1, k2, k3, k4⟩ := rules_row (row_base h3 (Nat.zero_le _))
  obtain ⟨m1, m2, m3⟩ := h4.read
  rw [h2] at m1
  have hl : L.length = g.nodes.length := by rw [← h2]; simp
  rw [hl] at m2
  exact ⟨a1, c1, a2, c2, h1, ⟨rfl, k3, k4, k1, rfl, m2, m3, m1, wf⟩, h5⟩
def reachB (g : Gr) : Bool := decide (g.rules.length ≤ 17592186044416) && decide (g.nodes.length ≤ 17592186044416) && g.nodes.all fun x => decide (x.kids.length ≤ 17592186044416)
theorem reach_of {g : Gr} (h : reachB g = true) : Reach g := by
  simp only [reachB, Bool.and_eq_true, decide_eq_true_eq, List.all_eq_true] at h
  exact ⟨h.1.1, h.1.2, h.2⟩

end Go.Proofs.YtibgfgfmljhimaaGreat
set_option linter.unusedVariables false
set_option linter.unusedSimpArgs false
set_option linter.unnecessarySimpa false
namespace Go.Proofs.YtibgfgfmljhimaaGreat
open Go.RowKit Go.MapKept Go.Shelf

structure Fit (ns : List Nd) : Prop where
  one : ns ≠ []
  all : ∀ x ∈ ns, (I64 x.k ∧ I64 x.r ∧ I64 x.l ∧ x.s.size ≤ 1000) ∧ x.kids.length ≤ 100 ∧ ∀ z ∈ x.kids, 0 ≤ z ∧ z ≤ ns.length
theorem Fit.small {ns : List Nd} (h : Fit ns) (hl : ns.length ≤ 3000) : Small ns :=
  ⟨hl, h.one, fun x hx => ⟨by have := (h.all x hx).2.1; omega, fun z hz => by have := (h.all x hx).2.2 z hz; omega⟩⟩
theorem fit_one {x : Nd} (hk : x.kids = []) (h1 : I64 x.k) (h2 : I64 x.r) (h3 : I64 x.l) (h4 : x.s.size ≤ 1000) : Fit [x] :=
  ⟨by simp, fun y hy => by
    simp only [List.mem_singleton] at hy
    subst hy
    exact ⟨⟨h1, h2, h3, h4⟩, by rw [hk]; simp, fun z hz => by rw [hk] at hz; cases hz⟩⟩
theorem fit_gramN_mem : ∀ (KL : List (List Nd)) (o : Nat) (x : Nd), x ∈ gramN KL o → ∃ b ∈ KL, ∃ y ∈ b, ∃ q : Nat, x = y.shift q ∧ o ≤ q ∧ q + b.length ≤ o + sumL KL := by
  intro KL
  induction KL with
  | nil => intro o x hx; cases hx
  | cons b bs ih =>
    intro o x hx
    simp only [gramN, List.mem_append] at hx
    rcases hx with hx | hx
    · simp only [movedL, List.mem_map] at hx
      obtain ⟨y, hy, rfl⟩ := hx
      exact ⟨b, by simp, y, hy, o, rfl, Nat.le_refl _, by simp [sumL]⟩
    · obtain ⟨c, hc, y, hy, q, e, h1, h2⟩ := ih _ _ hx
      exact ⟨c, by simp [hc], y, hy, q, e, by omega, by simp only [sumL, List.map_cons, List.sum_cons] at h2 ⊢; omega⟩
theorem fit_gramO_mem : ∀ (KL : List (List Nd)) (o : Nat) (z : Int), z ∈ gramO KL o → (o : Int) ≤ z ∧ z ≤ o + sumL KL := by
  intro KL
  induction KL with
  | nil => intro o z hz; cases hz
  | cons b bs ih =>
    intro o z hz
    simp only [gramO, List.mem_cons] at hz
    simp only [sumL, List.map_cons, List.sum_cons]
    rcases hz with rfl | hz
    · omega
    · have := ih _ _ hz
      simp only [sumL] at this
      omega
theorem fit_gramRs_mem : ∀ (KL : List (List Nd)) (i o : Nat) (r : Rl), r ∈ gramRs KL i o → r.name.size = 1 ∧ (o : Int) ≤ r.body ∧ r.body ≤ o + sumL KL := by
  intro KL
  induction KL with
  | nil => intro i o z hz; cases hz
  | cons b bs ih =>
    intro i o z hz
    simp only [gramRs, List.mem_cons] at hz
    simp only [sumL, List.map_cons, List.sum_cons]
    rcases hz with rfl | hz
    · exact ⟨rfl, by simp only; omega, by simp only; omega⟩
    · have := ih _ _ _ hz
      simp only [sumL] at this
      exact ⟨this.1, by omega, by omega⟩
theorem fit_shift {b : List Nd} (h : Fit b) {y : Nd} (hy : y ∈ b) {q T : Nat} (hq : q + b.length ≤ T) : (I64 (y.shift q).k ∧ I64 (y.shift q).r ∧ I64 (y.shift q).l ∧ (y.shift q).s.size ≤ 1000) ∧ (y.shift q).kids.length ≤ 100 ∧ ∀ z ∈ (y.shift q).kids, 0 ≤ z ∧ z ≤ T := by
  obtain ⟨h1, h2, h3⟩ := h.all y hy
  refine ⟨h1, by simpa [Nd.shift] using h2, fun z hz => ?_⟩
  simp only [Nd.shift, List.mem_map] at hz
  obtain ⟨u, hu, rfl⟩ := hz
  have := h3 u hu
  omega
theorem fit_of {k : Int} (hk : I64 k) {KL : List (List Nd)} (h : ∀ b ∈ KL, Fit b) (hl : KL.length ≤ 100) : Fit (ofL k KL) := by
  refine ⟨by simp [ofL], fun x hx => ?_⟩
  rw [ofL_len]
  simp only [ofL, List.mem_cons] at hx
  rcases hx with rfl | hx
  · refine ⟨⟨hk, by show I64 0; decide, by show I64 0; decide, by show (0 : Nat) ≤ 1000; omega⟩, by show (gramO KL 1).length ≤ 100; rw [gramO_len]; exact hl, fun z hz => ?_⟩
    have := fit_gramO_mem KL 1 z hz
    omega
  · obtain ⟨b, hb, y, hy, q, rfl, h1, h2⟩ := fit_gramN_mem KL 1 x hx
    exact fit_shift (h b hb) hy (by omega)
theorem fit_gram {KL : List (List Nd)} (h : ∀ b ∈ KL, Fit b) (hs : sumL KL ≤ 3000) (hn : KL.length ≤ 300) :
    (gramL KL).Wf ∧ Reach (gramL KL) ∧ (gramL KL).rules.length = KL.length ∧ (gramL KL).nodes.length = sumL KL ∧ ∀ x ∈ (gramL KL).nodes, x.kids.length ≤ 100 := by
  have hN : ∀ x ∈ (gramL KL).nodes, (I64 x.k ∧ I64 x.r ∧ I64 x.l ∧ x.s.size ≤ 1000) ∧ x.kids.length ≤ 100 ∧ ∀ z ∈ x.kids, 0 ≤ z ∧ z ≤ sumL KL := fun x hx => by
    obtain ⟨b, hb, y, hy, q, rfl, h1, h2⟩ := fit_gramN_mem KL 0 x hx
    exact fit_shift (h b hb) hy (by omega)
  have hR : (gramL KL).rules.length = KL.length := gramRs_len KL 0 0
  have hL : (gramL KL).nodes.length = sumL KL := gramN_sum KL 0
  refine ⟨⟨fun x hx => ?_, fun r hr => ?_, fun r hr => ?_⟩, ⟨by omega, by omega, fun x hx => by have := (hN x hx).2.1; omega⟩, hR, hL, fun x hx => (hN x hx).2.1⟩
  · obtain ⟨⟨h1, h2, h3, h4⟩, h5, h6⟩ := hN x hx
    exact ⟨h1, h2, h3, fun z hz => by have := h6 z hz; constructor <;> omega, by simp only [maxLen]; omega⟩
  · have := (fit_gramRs_mem KL 0 0 r hr).1
    simp only [maxLen]; omega
  · have := (fit_gramRs_mem KL 0 0 r hr).2
    constructor <;> omega
/-- A body of n nodes, in a row of its own. -/
def FBody (w : World) (a : Option Addr) (n c : Nat) : Prop := ∃ L : List Cp, n = L.length ∧ Fit (L.map (·.1)) ∧ OwnN 0 w a c L
theorem FBody.chg0 {w w' : World} {a : Option Addr} {n c : Nat} (h : FBody w a n c) (hc : Chg [] w w') : FBody w' a n c := by
  obtain ⟨L, h1, h2, h3⟩ := h
  exact ⟨L, h1, h2, h3.chg0 hc⟩
theorem FBody.chg {w w' : World} {S : List Nat} {a : Option Addr} {n c : Nat} (h : FBody w a n c) (hc : Chg S w w') (hS : ∀ k ∈ S, NotRow w 53 k ∧ NotRow w 3 k) : FBody w' a n c := by
  obtain ⟨L, h1, h2, h3⟩ := h
  exact ⟨L, h1, h2, h3.chg hc hS⟩
theorem FBody.nodes {w : World} {a : Option Addr} {n c : Nat} (h : FBody w a n c) : ∃ ns : List Nd, n = ns.length ∧ Nodes w a ns ∧ Fit ns := by
  obtain ⟨L, h1, h2, h3⟩ := h
  exact ⟨L.map (·.1), by rw [h1, List.length_map], h3.read.1, h2⟩
def FitBody (m : Nat) (w : World) (e : Ending) (w' : World) : Prop := ∃ a n c, e = .returned (.slice a n c) ∧ n ≤ m ∧ FBody w' a n c ∧ Chg [] w w'
theorem NewRows.fit {w : World} {ns : List Nd} {e : Ending} {w' : World} {m : Nat} (h : NewRows w ns e w') (hf : Fit ns) (hm : ns.length ≤ m) : FitBody m w e w' := by
  obtain ⟨a, c, L, h1, h2, h3, h4⟩ := h
  subst h2
  exact ⟨a, _, c, h1, hm, ⟨L, by rw [List.length_map], hf, h3.below (Nat.zero_le _)⟩, h4⟩
theorem FitBody.le {m m' : Nat} {w : World} {e : Ending} {w' : World} (h : FitBody m w e w') (hm : m ≤ m') : FitBody m' w e w' := by
  obtain ⟨a, n, c, h1, h2, h3, h4⟩ := h
  exact ⟨a, n, c, h1, by omega, h3, h4⟩
/-- One node of one's own. -/
theorem fbody_one {w : World} {k : Nat} {x : Nd} (hx : x.kids = []) (hf : Fit [x]) (h : w.heap[k]? = some (.cells (x.cells none 0 0) 53 (0, 0))) : FBody w (some ⟨k, 0, none⟩) 1 1 := by
  refine ⟨[(x, none, 0)], rfl, hf, ⟨rfl, .inr ⟨k, 1, _, rfl, Nat.zero_le _, h, Nat.le_refl _, by decide, rfl, ?_⟩⟩, fun p hp => ?_, List.pairwise_singleton _ _⟩
  · simp [nodesCells, Cp.cells, Nd.cells, hx]
  · simp only [List.mem_singleton] at hp
    subst hp
    show World.ownsRow w 0 3 1 (.slice none x.kids.length 0) x.kids.length (x.kids.map (Value.int .i64))
    rw [hx]
    exact World.ownsRow_nil _ _ _ _

/-! ### Rows of bodies -/
def BodiesF (w : World) (a : Option Addr) (n : Nat) : Prop := ∃ KL : List (List Nd), n = KL.length ∧ Bodies w a KL ∧ ∀ b ∈ KL, Fit b ∧ b.length ≤ 50
theorem sumL_le : ∀ (KL : List (List Nd)) (m : Nat), (∀ b ∈ KL, b.length ≤ m) → sumL KL ≤ m * KL.length := by
  intro KL
  induction KL with
  | nil => intro m _; simp [sumL]
  | cons b bs ih =>
    intro m h
    have h1 := h b (by simp)
    have h2 := ih m (fun c hc => h c (by simp [hc]))
    simp only [sumL, List.map_cons, List.sum_cons, List.length_cons, Nat.mul_succ] at h2 ⊢
    omega
theorem bodiesF_at {w : World} {a : Option Addr} {n : Nat} (hlen : n ≤ 1000) (h : ∀ i, i < n → ∃ b o a1 m1 c1, a = some ⟨b, o, none⟩ ∧ w.cell? ⟨b, o + i, none⟩ = some (.slice a1 m1 c1) ∧ FBody w a1 m1 c1 ∧ m1 ≤ 50) : BodiesF w a n := by
  have key : ∀ m, m ≤ n → ∃ KL : List (List Nd), m = KL.length ∧ (∀ b ∈ KL, Fit b ∧ b.length ≤ 50) ∧ Bodies w a KL := by
    intro m
    induction m with
    | zero => intro _; exact ⟨[], rfl, (fun b hb => by cases hb), (fun i hi => by cases hi)⟩
    | succ m ih =>
      intro hm
      obtain ⟨KL, h1, h2, h3⟩ := ih (by omega)
      obtain ⟨b, o, a1, m1, c1, e1, e2, e3, e4⟩ := h m (by omega)
      obtain ⟨ns, g1, g2, g3⟩ := e3.nodes
      subst g1
      refine ⟨KL ++ [ns], by simp [← h1], fun c hc => ?_, fun i hi => ?_⟩
      · rcases List.mem_append.1 hc with hc | hc
        · exact h2 c hc
        · simp only [List.mem_singleton] at hc
          subst hc
          exact ⟨g3, e4⟩
      · by_cases hlt : i < KL.length
        · rw [List.getElem_append_left hlt]
          exact h3 i hlt
        · have hi2 : i = m := by simp at hi; omega
          subst hi2
          refine ⟨b, o, a1, c1, e1, ?_, ?_⟩
          · rw [List.getElem_append_right (by omega)]
            simpa using e2
          · rw [List.getElem_append_right (by omega)]
            simpa using g2
  obtain ⟨KL, h1, h2, h3⟩ := key n (Nat.le_refl _)
  exact ⟨KL, h1, h3, h2⟩
/-- A row of bodies, of one's own. -/
structure BRow (B : Nat) (w : World) (a : Option Addr) (n c : Nat) (VS : List (Option Addr × Nat × Nat)) : Prop where
  len : n = VS.length
  row : w.ownsRow B 23 1 (.slice a n c) n (VS.map fun v => .slice v.1 v.2.1 v.2.2)
  own : ∀ v ∈ VS, FBody w v.1 v.2.1 v.2.2 ∧ v.2.1 ≤ 50
theorem BRow.nil (B : Nat) (w : World) : BRow B w none 0 0 [] := ⟨rfl, World.ownsRow_nil _ _ _ _, fun v hv => by cases hv⟩
theorem BRow.chg0 {B : Nat} {w w' : World} {a : Option Addr} {n c : Nat} {VS : List (Option Addr × Nat × Nat)} (h : BRow B w a n c VS) (hc : Chg [] w w') : BRow B w' a n c VS :=
  ⟨h.len, hc.row h.row (fun _ _ => by simp), fun v hv => ⟨(h.own v hv).1.chg0 hc, (h.own v hv).2⟩⟩
theorem BRow.snoc {B : Nat} {w w' : World} {a : Option Addr} {n c : Nat} {VS : List (Option Addr × Nat × Nat)} (h : BRow B w a n c VS) {a1 : Option Addr} {m1 c1 : Nat} (hx : FBody w a1 m1 c1) (hm : m1 ≤ 50) {a' : Option Addr} {c' : Nat}
    (hr : w'.ownsRow B 23 1 (.slice a' (n + 1) c') (n + 1) ((VS.map fun v => .slice v.1 v.2.1 v.2.2) ++ [.slice a1 m1 c1])) (hg : w.grownBy w' (Value.slice a n c).ownBlock) :
    BRow B w' a' (n + 1) c' (VS ++ [(a1, m1, c1)]) ∧ ∀ w0, Chg [] w0 w → w0.heap.size ≤ B → Chg [] w0 w' := by
  have hc : Chg (Value.slice a n c).ownBlock.toList w w' := (Chg.refl _ w).grown hg (fun k hk => .inl (by rw [hk]; simp))
  have hS : ∀ k ∈ (Value.slice a n c).ownBlock.toList, NotRow w 53 k ∧ NotRow w 3 k := by
    intro k hk
    simp only [Option.mem_toList] at hk
    exact ⟨row_notrow h.row hk (by decide), row_notrow h.row hk (by decide)⟩
  refine ⟨⟨by rw [List.length_append, ← h.len]; rfl, by rw [List.map_append]; exact hr, fun q hq => ?_⟩, fun w0 h0 hB => h0.grown hg (fun k hk => .inr (by have := (row_beyond h.row hk).1; omega))⟩
  rcases List.mem_append.1 hq with hq | hq
  · exact ⟨(h.own q hq).1.chg hc hS, (h.own q hq).2⟩
  · simp only [List.mem_singleton] at hq
    subst hq
    exact ⟨hx.chg hc hS, hm⟩
theorem BRow.bodies {B : Nat} {w : World} {a : Option Addr} {n c : Nat} {VS : List (Option Addr × Nat × Nat)} (h : BRow B w a n c VS) (hn : n ≤ 1000) : BodiesF w a n := by
  refine bodiesF_at hn (fun i hi => ?_)
  have hiV : i < VS.length := by have := h.len; omega
  have hr := h.row
  have hb : ∃ G, a = some ⟨G, 0, none⟩ := by
    rcases hr.2 with ⟨h0, h1⟩ | ⟨g, cap, cur, h0, _⟩
    · omega
    · cases h0; exact ⟨g, rfl⟩
  obtain ⟨G, rfl⟩ := hb
  have c0 := (row_put hr (i := i) (by omega)).1
  refine ⟨G, 0, VS[i].1, VS[i].2.1, VS[i].2.2, rfl, ?_, (h.own _ (List.getElem_mem hiV)).1, (h.own _ (List.getElem_mem hiV)).2⟩
  rw [Nat.zero_add, c0]
  simp [hiV]

/-! ### Grammars of one's own -/
structure FG (B : Nat) (w : World) (b1 : Option Addr) (n d1 : Nat) (b2 : Option Addr) (m d2 : Nat) (rs : List Rl) (L : List Cp) : Prop where
  ln : rs.length = n
  lm : L.length = m
  rules : FreshRules B w b1 d1 rs
  nodes : OwnN B w b2 d2 L
  wf : Gr.Wf ⟨rs, L.map (·.1)⟩
  fn : n ≤ 300
  fm : m ≤ 3000
  fk : ∀ x ∈ L.map (·.1), x.kids.length ≤ 100
theorem FG.chg0 {B : Nat} {w w' : World} {b1 : Option Addr} {n d1 : Nat} {b2 : Option Addr} {m d2 : Nat} {rs : List Rl} {L : List Cp} (h : FG B w b1 n d1 b2 m d2 rs L) (hc : Chg [] w w') : FG B w' b1 n d1 b2 m d2 rs L :=
  ⟨h.ln, h.lm, hc.row h.rules (fun _ _ => by simp), h.nodes.chg0 hc, h.wf, h.fn, h.fm, h.fk⟩
theorem FG.gram {B : Nat} {w : World} {b1 : Option Addr} {n d1 : Nat} {b2 : Option Addr} {m d2 : Nat} {rs : List Rl} {L : List Cp} (h : FG B w b1 n d1 b2 m d2 rs L) :
    GramAt w b1 n d1 b2 m d2 ⟨rs, L.map (·.1)⟩ ∧ Reach ⟨rs, L.map (·.1)⟩ := by
  obtain ⟨k1, k2, k3, k4⟩ := rules_row (row_base h.rules (Nat.zero_le _))
  obtain ⟨m1, m2, m3⟩ := h.nodes.read
  have e1 := h.ln
  have e2 := h.lm
  have e3 := h.fn
  have e4 := h.fm
  refine ⟨⟨e1.symm, by omega, k4, k1, by rw [List.length_map]; exact e2.symm, by omega, m3, m1, h.wf⟩, by show rs.length ≤ _; omega, by show (L.map (·.1)).length ≤ _; rw [List.length_map]; omega, fun x hx => by have := h.fk x hx; omega⟩
/-- A rule's name is written. -/
theorem FG.put {B : Nat} {w : World} {b1 : Option Addr} {n d1 : Nat} {b2 : Option Addr} {m d2 : Nat} {rs : List Rl} {L : List Cp} (h : FG B w b1 n d1 b2 m d2 rs L) {i : Nat} (hi : i < n) :
    ∃ R v, b1 = some ⟨R, 0, none⟩ ∧ B ≤ R ∧ (∃ cur, w.heap[R]? = some (.cells cur 43 (0, 0))) ∧ w.cell? ⟨R, i * 2, none⟩ = some v ∧ w.frozen? ⟨R, i * 2, none⟩ = false ∧
      ∀ nm : ByteArray, nm.size ≤ 1000 → ∃ rs', FG B (w.setCell ⟨R, i * 2, none⟩ (.string nm)) b1 n d1 b2 m d2 rs' L ∧ Chg [R] w (w.setCell ⟨R, i * 2, none⟩ (.string nm)) := by
  have hiL : i < rs.length := by have := h.ln; omega
  obtain ⟨R, e, hB, ⟨cur, hcur⟩, hc, hf, hput⟩ := rules_put h.rules hiL
  refine ⟨R, _, e, hB, ⟨cur, hcur⟩, hc, hf, fun nm hnm => ?_⟩
  obtain ⟨p1, p2⟩ := hput nm
  refine ⟨rs.set i ⟨nm, rs[i].body⟩, ⟨by rw [List.length_set]; exact h.ln, h.lm, p1, h.nodes.chg p2 (fun k hk => ?_), ⟨h.wf.nodes, fun r hr => ?_, fun r hr => ?_⟩, h.fn, h.fm, h.fk⟩, p2⟩
  · simp only [List.mem_singleton] at hk
    subst hk
    exact ⟨.of_cells hcur (by decide), .of_cells hcur (by decide)⟩
  · rcases List.mem_or_eq_of_mem_set hr with hr | rfl
    · exact h.wf.names r hr
    · simp only [maxLen]; omega
  · rcases List.mem_or_eq_of_mem_set hr with hr | rfl
    · exact h.wf.bodies r hr
    · exact h.wf.bodies rs[i] (List.getElem_mem hiL)
end Go.Proofs.YtibgfgfmljhimaaGreat
