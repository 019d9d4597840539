/-
  Rows of numbers that lie apart, and grow: what lies where.
  Conditions: none.
-/
import Derived.Test.YtibgfgfmljhimaaGreatWe9Ln2
import Derived.Test.YtibgfgfmljhimaaGreatWe9GAny2
set_option linter.unusedVariables false
set_option linter.unusedSimpArgs false
set_option linter.unnecessarySimpa false
namespace Go.Proofs.YtibgfgfmljhimaaGreat
open Go.RowKit Go.MapKept Go.Shelf

/-- A slice. -/
structure IR where
  a : Option Addr
  n : Nat
  c : Nat
def IR.v (r : IR) : Value := .slice r.a r.n r.c
def IR.blk (r : IR) : Option Nat := r.v.ownBlock
/-- A row of one's own, its first m numbers the marks of k. -/
def RowK (w : World) (r : IR) (m k : Nat) : Prop := ∃ xs : List Value, w.ownsRow 0 3 1 r.v r.n xs ∧ ∀ i, i < m → xs[i]? = some (.int .i64 (markZ k i))
theorem RowK.le {w : World} {r : IR} {m m' k : Nat} (h : RowK w r m k) (hm : m' ≤ m) : RowK w r m' k := by
  obtain ⟨xs, h1, h2⟩ := h
  exact ⟨xs, h1, fun i hi => h2 i (by omega)⟩
theorem RowK.chg {w w' : World} {S : List Nat} {r : IR} {m k : Nat} (h : RowK w r m k) (hc : Chg S w w') (hn : ∀ x, r.blk = some x → x ∉ S) : RowK w' r m k := by
  obtain ⟨xs, h1, h2⟩ := h
  exact ⟨xs, hc.row h1 hn, h2⟩
theorem row_form {w : World} {B e sz : Nat} {r : IR} {n : Nat} {xs : List Value} (h : w.ownsRow B e sz r.v n xs) : (r.a = none ∧ r.n = 0 ∧ r.c = 0 ∧ r.blk = none) ∨ ∃ g, r.a = some ⟨g, 0, none⟩ ∧ r.blk = some g ∧ g < w.heap.size ∧ r.n = n ∧ n ≤ r.c ∧ r.c ≤ maxLen := by
  obtain ⟨a, m, c⟩ := r
  rcases h.2 with ⟨h0, h1⟩ | ⟨g, cap, cur, h0, hb, hg, hn, hc, _⟩
  · simp only [IR.v] at h0
    cases h0
    exact .inl ⟨rfl, rfl, rfl, rfl⟩
  · simp only [IR.v] at h0
    cases h0
    exact .inr ⟨g, rfl, rfl, lt_of_block hg, rfl, hn, hc⟩
theorem RowK.take {w : World} {r g : IR} {m k : Nat} (h : RowK w g m k) (h1 : g.a = r.a) (h2 : g.c = r.c) (h3 : r.n ≤ g.n) (h4 : r.n ≤ m) (h5 : r.a = none → r.n = 0 ∧ r.c = 0) : RowK w r r.n k := by
  obtain ⟨xs, q1, q2⟩ := h
  obtain ⟨ga, gn, gc⟩ := g
  obtain ⟨ra, rn, rc⟩ := r
  simp only at h1 h2 h3 h4 h5
  subst h1 h2
  cases ga with
  | none =>
    obtain ⟨rfl, rfl⟩ := h5 rfl
    exact ⟨[], World.ownsRow_nil _ _ _ _, fun i hi => by simp only at hi; omega⟩
  | some b =>
    have := row_take q1 h3 (by simp)
    rw [Nat.mul_one] at this
    refine ⟨_, this, fun i hi => ?_⟩
    simp only at hi
    rw [List.getElem?_take_of_lt hi]
    exact q2 i (by omega)
def upd {α : Type} (f : Nat → α) (k : Nat) (x : α) : Nat → α := fun j => if j = k then x else f j
theorem upd_same {α : Type} (f : Nat → α) (k : Nat) (x : α) : upd f k x k = x := by simp [upd]
theorem upd_ne {α : Type} (f : Nat → α) {k j : Nat} (x : α) (h : j ≠ k) : upd f k x j = f j := by simp [upd, h]

/-- Rows, and what was grown of each. -/
structure Aps (N : Nat) (w : World) (R G : Nat → IR) (m : Nat → Nat) : Prop where
  row : ∀ j, j < N → RowK w (R j) (R j).n j
  grown : ∀ j, j < N → (R j).n ≤ (G j).n ∧ (R j).n ≤ m j ∧ RowK w (G j) (m j) j
  share : ∀ j, j < N → (G j).blk = (R j).blk → (G j).a = (R j).a ∧ (G j).c = (R j).c
  apart : ∀ i j, i < N → j < N → i ≠ j → ∀ x, ((R i).blk = some x ∨ (G i).blk = some x) → ¬ ((R j).blk = some x ∨ (G j).blk = some x)
theorem Aps.chg0 {N : Nat} {w w' : World} {R G : Nat → IR} {m : Nat → Nat} (h : Aps N w R G m) (hc : Chg [] w w') : Aps N w' R G m :=
  ⟨fun j hj => (h.row j hj).chg hc (fun _ _ => by simp), fun j hj => ⟨(h.grown j hj).1, (h.grown j hj).2.1, (h.grown j hj).2.2.chg hc (fun _ _ => by simp)⟩, h.share, h.apart⟩
/-- Blocks that are no rows of numbers are written. -/
theorem Aps.chgT {N : Nat} {w w' : World} {S : List Nat} {R G : Nat → IR} {m : Nat → Nat} (h : Aps N w R G m) (hc : Chg S w w') (hS : ∀ k ∈ S, NotRow w 3 k) : Aps N w' R G m :=
  ⟨fun j hj => by obtain ⟨xs, h1, h2⟩ := h.row j hj; exact ⟨xs, hc.rowOf h1 hS, h2⟩, fun j hj => by obtain ⟨h3, h4, xs, h1, h2⟩ := h.grown j hj; exact ⟨h3, h4, xs, hc.rowOf h1 hS, h2⟩, h.share, h.apart⟩
theorem Aps.step {N k : Nat} {w w' : World} {R G : Nat → IR} {m : Nat → Nat} (h : Aps N w R G m) (hk : k < N) {s g' : IR} (hs : s = R k ∨ s = G k) {m' : Nat} {ys : List Value} (hown : w'.ownsRow 0 3 1 g'.v g'.n ys) (hm : ∀ i, i < m' → ys[i]? = some (.int .i64 (markZ k i)))
    (hg : w.grownBy w' s.blk) (hor : (∃ g cap, s.v = .slice (some ⟨g, 0, none⟩) s.n cap ∧ g'.v = .slice (some ⟨g, 0, none⟩) g'.n cap) ∨ Chg [] w w' ∧ (g'.v = s.v ∨ g'.blk = none ∨ g'.blk = some w.heap.size)) (hn : (R k).n ≤ g'.n) (hm' : (R k).n ≤ m') :
    Aps N w' R (upd G k g') (upd m k m') := by
  have hRk := h.row k hk
  have hnew : RowK w' g' m' k := ⟨ys, hown, hm⟩
  have hform : ∀ j, j < N → ∀ x, ((R j).blk = some x ∨ (G j).blk = some x) → x < w.heap.size := fun j hj x hx => by
    obtain ⟨xs, h1, _⟩ := h.row j hj
    obtain ⟨_, _, ys, h2, _⟩ := h.grown j hj
    rcases hx with hx | hx
    · exact (row_beyond h1 hx).2.1
    · exact (row_beyond h2 hx).2.1
  have hRn : (R k).a = none → (R k).n = 0 ∧ (R k).c = 0 := fun ha => by
    obtain ⟨xs, h1, _⟩ := hRk
    rcases row_form h1 with ⟨_, q1, q2, _⟩ | ⟨g, q1, _⟩
    · exact ⟨q1, q2⟩
    · rw [ha] at q1; cases q1
  rcases hor with ⟨g, cap, e1, e2⟩ | ⟨hc, hv⟩
  · have hsb : s.blk = some g := by unfold IR.blk; rw [e1]; rfl
    have hgb : g'.blk = some g := by unfold IR.blk; rw [e2]; rfl
    have hc : Chg [g] w w' := (Chg.refl _ w).grown hg (fun j hj => .inl (by rw [hsb] at hj; cases hj; simp))
    have hga : g'.a = some ⟨g, 0, none⟩ ∧ g'.c = cap := by simp only [IR.v] at e2; cases g'; cases e2; exact ⟨rfl, rfl⟩
    have hsa : s.a = some ⟨g, 0, none⟩ ∧ s.c = cap := by simp only [IR.v] at e1; cases s; cases e1; exact ⟨rfl, rfl⟩
    have hmine : (R k).blk = some g ∨ (G k).blk = some g := by rcases hs with rfl | rfl; exact .inl hsb; exact .inr hsb
    have hoth : ∀ j, j < N → j ≠ k → ∀ x, ((R j).blk = some x ∨ (G j).blk = some x) → x ≠ g := fun j hj hne x hx e => by
      subst e
      exact h.apart j k hj hk hne x hx hmine
    -- the row itself, when it lies in the block that grew
    have hsame : (R k).blk = some g → g'.a = (R k).a ∧ g'.c = (R k).c := fun hb => by
      rcases hs with rfl | rfl
      · exact ⟨hga.1.trans hsa.1.symm, hga.2.trans hsa.2.symm⟩
      · obtain ⟨q1, q2⟩ := h.share k hk (hsb.trans hb.symm)
        exact ⟨hga.1.trans (hsa.1.symm.trans q1), hga.2.trans (hsa.2.symm.trans q2)⟩
    refine ⟨fun j hj => ?_, fun j hj => ?_, fun j hj => ?_, fun i j hi hj hij x => ?_⟩
    · by_cases e : j = k
      · subst e
        by_cases hb : (R j).blk = some g
        · obtain ⟨q1, q2⟩ := hsame hb
          exact hnew.take q1 q2 hn hm' hRn
        · exact (h.row j hj).chg hc (fun x hx hm => by simp at hm; subst hm; exact hb hx)
      · exact (h.row j hj).chg hc (fun x hx hm => by simp at hm; exact hoth j hj e x (.inl hx) hm)
    · by_cases e : j = k
      · subst e
        rw [upd_same, upd_same]
        exact ⟨hn, hm', hnew⟩
      · rw [upd_ne _ _ e, upd_ne _ _ e]
        obtain ⟨q1, q2, q3⟩ := h.grown j hj
        exact ⟨q1, q2, q3.chg hc (fun x hx hm => by simp at hm; exact hoth j hj e x (.inr hx) hm)⟩
    · by_cases e : j = k
      · subst e
        rw [upd_same]
        intro hb
        exact hsame (hb.symm.trans hgb)
      · rw [upd_ne _ _ e]
        exact h.share j hj
    · by_cases e1 : i = k
      · subst e1
        rw [upd_same, upd_ne _ _ (Ne.symm hij)]
        intro hx
        refine h.apart i j hi hj hij x ?_
        rcases hx with hx | hx
        · exact .inl hx
        · rw [hgb] at hx; cases hx; exact hmine
      · by_cases e2 : j = k
        · subst e2
          rw [upd_same, upd_ne _ _ e1]
          intro hx hy
          refine h.apart i j hi hj hij x hx ?_
          rcases hy with hy | hy
          · exact .inl hy
          · rw [hgb] at hy; cases hy; exact hmine
        · rw [upd_ne _ _ e1, upd_ne _ _ e2]
          exact h.apart i j hi hj hij x
  · have hblk : g'.blk = s.blk ∨ g'.blk = none ∨ g'.blk = some w.heap.size := by
      rcases hv with h1 | h1 | h1
      · left; unfold IR.blk; rw [h1]
      · exact .inr (.inl h1)
      · exact .inr (.inr h1)
    have hbx : ∀ x, g'.blk = some x → ((R k).blk = some x ∨ (G k).blk = some x) ∨ x = w.heap.size := fun x hx => by
      rcases hblk with h1 | h1 | h1
      · rw [h1] at hx
        rcases hs with rfl | rfl
        · exact .inl (.inl hx)
        · exact .inl (.inr hx)
      · rw [h1] at hx; cases hx
      · rw [h1] at hx; cases hx; exact .inr rfl
    refine ⟨fun j hj => (h.row j hj).chg hc (fun _ _ => by simp), fun j hj => ?_, fun j hj => ?_, fun i j hi hj hij x => ?_⟩
    · by_cases e : j = k
      · subst e
        rw [upd_same, upd_same]
        exact ⟨hn, hm', hnew⟩
      · rw [upd_ne _ _ e, upd_ne _ _ e]
        obtain ⟨q1, q2, q3⟩ := h.grown j hj
        exact ⟨q1, q2, q3.chg hc (fun _ _ => by simp)⟩
    · by_cases e : j = k
      · subst e
        rw [upd_same]
        intro hb
        rcases hv with h1 | h1
        · have e2 : g'.a = s.a ∧ g'.c = s.c := by simp only [IR.v] at h1; cases g'; cases s; cases h1; exact ⟨rfl, rfl⟩
          rcases hs with rfl | rfl
          · exact e2
          · have hb2 : (G j).blk = (R j).blk := by rw [← hb]; unfold IR.blk; rw [h1]
            obtain ⟨q1, q2⟩ := h.share j hj hb2
            exact ⟨e2.1.trans q1, e2.2.trans q2⟩
        · rcases h1 with h1 | h1
          · rw [h1] at hb
            obtain ⟨xs, r1, _⟩ := hRk
            rcases row_form r1 with ⟨p1, p2, p3, _⟩ | ⟨g, _, p2, _⟩
            · rcases row_form hown with ⟨z1, z2, z3, _⟩ | ⟨g, _, z2, _⟩
              · exact ⟨z1.trans p1.symm, z3.trans p3.symm⟩
              · rw [h1] at z2; cases z2
            · rw [← hb] at p2; cases p2
          · rw [h1] at hb
            exact absurd (hform j hj _ (.inl hb.symm)) (Nat.lt_irrefl _)
      · rw [upd_ne _ _ e]
        exact h.share j hj
    · by_cases e1 : i = k
      · subst e1
        rw [upd_same, upd_ne _ _ (Ne.symm hij)]
        intro hx hy
        have : ((R i).blk = some x ∨ (G i).blk = some x) ∨ x = w.heap.size := hx.elim (fun hx => .inl (.inl hx)) (hbx x)
        rcases this with hx | rfl
        · exact h.apart i j hi hj hij x hx hy
        · exact absurd (hform j hj _ hy) (Nat.lt_irrefl _)
      · by_cases e2 : j = k
        · subst e2
          rw [upd_same, upd_ne _ _ e1]
          intro hx hy
          have : ((R j).blk = some x ∨ (G j).blk = some x) ∨ x = w.heap.size := hy.elim (fun hy => .inl (.inl hy)) (hbx x)
          rcases this with hy | rfl
          · exact h.apart i j hi hj hij x hx hy
          · exact absurd (hform i hi _ hx) (Nat.lt_irrefl _)
        · rw [upd_ne _ _ e1, upd_ne _ _ e2]
          exact h.apart i j hi hj hij x
end Go.Proofs.YtibgfgfmljhimaaGreat
