/-
  Rows of any kind that lie apart, and grow: what lies where.
  Conditions: none.
-/
import Derived.Test.YtibgfgfmljhimaaGreatWe9Ap0
import Derived.Test.YtibgfgfmljhimaaGreatWe9GAny2
set_option linter.unusedVariables false
set_option linter.unusedSimpArgs false
set_option linter.unnecessarySimpa false
namespace Go.Proofs.YtibgfgfmljhimaaGreat
open Go.RowKit Go.MapKept Go.Shelf

/-- A kind of rows: the elements' type, the rows', how many cells an element has, the type of the blocks that an element may lead to, how a marked element reads. -/
structure Kd where
  e : TypeId
  t : TypeId
  m : Nat
  tr : TypeId
  El : World → Nat → Nat → List Value → Prop
structure Kd.Ok (K : Kd) : Prop where
  pos : 0 < K.m
  ne1 : K.e ≠ K.tr
  ne2 : K.t ≠ K.tr
  ne3 : K.e ≠ K.t
  len : ∀ {W k i l}, K.El W k i l → l.length = K.m
  stable : ∀ {W W' T k i l}, Chg T W W' → (∀ x ∈ T, NotRow W K.tr x) → K.El W k i l → K.El W' k i l

def seg (m : Nat) (xs : List Value) (i : Nat) : List Value := (xs.drop (i * m)).take m
theorem seg_get {m i q : Nat} {xs : List Value} (hq : q < m) : (seg m xs i)[q]? = xs[i * m + q]? := by simp [seg, List.getElem?_take, hq, List.getElem?_drop]
theorem seg_none {m i q : Nat} {xs : List Value} (hq : ¬ q < m) : (seg m xs i)[q]? = none := by simp [seg, List.getElem?_take, hq]
theorem seg_lt {m n i q : Nat} (h : i < n) (hq : q < m) : i * m + q < n * m := by
  have h1 : (i + 1) * m ≤ n * m := Nat.mul_le_mul_right m h
  rw [Nat.succ_mul] at h1
  omega
theorem seg_ext {m i : Nat} {xs l : List Value} (hl : l.length = m) (h : ∀ q, q < m → xs[i * m + q]? = l[q]?) : seg m xs i = l := by
  apply List.ext_getElem?
  intro q
  by_cases hq : q < m
  · rw [seg_get hq, h q hq]
  · rw [seg_none hq, List.getElem?_eq_none (by omega)]
theorem seg_take {m n i : Nat} {xs : List Value} (h : i < n) : seg m (xs.take (n * m)) i = seg m xs i := by
  apply List.ext_getElem?
  intro q
  by_cases hq : q < m
  · rw [seg_get hq, seg_get hq, List.getElem?_take_of_lt (seg_lt h hq)]
  · rw [seg_none hq, seg_none hq]
theorem seg_left {m n i : Nat} {xs ys : List Value} (hx : xs.length = n * m) (h : i < n) : seg m (xs ++ ys) i = seg m xs i := by
  apply List.ext_getElem?
  intro q
  by_cases hq : q < m
  · rw [seg_get hq, seg_get hq, List.getElem?_append_left (by rw [hx]; exact seg_lt h hq)]
  · rw [seg_none hq, seg_none hq]
theorem seg_right {m n : Nat} {xs ys : List Value} (hx : xs.length = n * m) (hy : ys.length = m) : seg m (xs ++ ys) n = ys :=
  seg_ext hy fun q hq => by rw [List.getElem?_append_right (by omega), hx, show n * m + q - n * m = q by omega]

/-- A row of one's own, its first m elements marked for k. -/
def RowQ (K : Kd) (w : World) (r : IR) (m k : Nat) : Prop := ∃ xs : List Value, w.ownsRow 0 K.e K.m r.v r.n xs ∧ ∀ i, i < m → K.El w k i (seg K.m xs i)
theorem RowQ.le {K : Kd} {w : World} {r : IR} {m m' k : Nat} (h : RowQ K w r m k) (hm : m' ≤ m) : RowQ K w r m' k := by
  obtain ⟨xs, h1, h2⟩ := h
  exact ⟨xs, h1, fun i hi => h2 i (by omega)⟩
theorem RowQ.chg {K : Kd} (ok : K.Ok) {w w' : World} {S : List Nat} {r : IR} {m k : Nat} (h : RowQ K w r m k) (hc : Chg S w w') (hn : ∀ x, r.blk = some x → x ∉ S) (hS : ∀ x ∈ S, NotRow w K.tr x) : RowQ K w' r m k := by
  obtain ⟨xs, h1, h2⟩ := h
  exact ⟨xs, hc.row h1 hn, fun i hi => ok.stable hc hS (h2 i hi)⟩
theorem RowQ.chg0 {K : Kd} (ok : K.Ok) {w w' : World} {r : IR} {m k : Nat} (h : RowQ K w r m k) (hc : Chg [] w w') : RowQ K w' r m k := h.chg ok hc (fun _ _ => by simp) (by simp)
theorem RowQ.take {K : Kd} {w : World} {r g : IR} {m k : Nat} (h : RowQ K w g m k) (h1 : g.a = r.a) (h2 : g.c = r.c) (h3 : r.n ≤ g.n) (h4 : r.n ≤ m) (h5 : r.a = none → r.n = 0 ∧ r.c = 0) : RowQ K w r r.n k := by
  obtain ⟨xs, q1, q2⟩ := h
  obtain ⟨ga, gn, gc⟩ := g
  obtain ⟨ra, rn, rc⟩ := r
  simp only at h1 h2 h3 h4 h5
  subst h1 h2
  cases ga with
  | none =>
    obtain ⟨rfl, rfl⟩ := h5 rfl
    exact ⟨[], World.ownsRow_nil _ _ _ _, fun i hi => by simp only at hi; omega⟩
  | some b =>
    have := row_take q1 h3 (by simp)
    refine ⟨_, this, fun i hi => ?_⟩
    simp only at hi
    rw [seg_take hi]
    exact q2 i (by omega)
theorem RowQ.not {K : Kd} {w : World} {r : IR} {m k : Nat} (h : RowQ K w r m k) {x : Nat} (hx : r.blk = some x) {e' : TypeId} (he : K.e ≠ e') : NotRow w e' x := by
  obtain ⟨xs, h1, _⟩ := h
  exact row_notrow h1 hx he
theorem RowQ.at {K : Kd} (ok : K.Ok) {w : World} {r : IR} {m k i : Nat} (h : RowQ K w r m k) (hi : i < m) (hn : i < r.n) :
    ∃ g l, r.a = some ⟨g, 0, none⟩ ∧ K.El w k i l ∧ (∀ q, q < K.m → w.cell? ⟨g, i * K.m + q, none⟩ = l[q]?) ∧ r.n ≤ r.c ∧ r.c ≤ maxLen := by
  obtain ⟨xs, h1, h2⟩ := h
  rcases row_form h1 with ⟨_, q, _⟩ | ⟨g, ga, gb, gl, _, gc, gm⟩
  · omega
  · refine ⟨g, seg K.m xs i, ga, h2 i hi, fun q hq => ?_, gc, gm⟩
    have h4 : r.v = .slice (some ⟨g, 0, none⟩) r.n r.c := by unfold IR.v; rw [ga]
    rw [h4] at h1
    rw [seg_get hq]
    exact (row_put h1 (i := i * K.m + q) (seg_lt hn hq)).1

/-- Rows, and what was grown of each. -/
structure ApsQ (K : Kd) (N : Nat) (w : World) (R G : Nat → IR) (m : Nat → Nat) : Prop where
  row : ∀ j, j < N → RowQ K w (R j) (R j).n j
  grown : ∀ j, j < N → (R j).n ≤ (G j).n ∧ (R j).n ≤ m j ∧ RowQ K w (G j) (m j) j
  share : ∀ j, j < N → (G j).blk = (R j).blk → (G j).a = (R j).a ∧ (G j).c = (R j).c
  apart : ∀ i j, i < N → j < N → i ≠ j → ∀ x, ((R i).blk = some x ∨ (G i).blk = some x) → ¬ ((R j).blk = some x ∨ (G j).blk = some x)
theorem ApsQ.chg0 {K : Kd} (ok : K.Ok) {N : Nat} {w w' : World} {R G : Nat → IR} {m : Nat → Nat} (h : ApsQ K N w R G m) (hc : Chg [] w w') : ApsQ K N w' R G m :=
  ⟨fun j hj => (h.row j hj).chg0 ok hc, fun j hj => ⟨(h.grown j hj).1, (h.grown j hj).2.1, (h.grown j hj).2.2.chg0 ok hc⟩, h.share, h.apart⟩
/-- Blocks that are no rows of numbers are written. -/
theorem ApsQ.chgT {K : Kd} (ok : K.Ok) {N : Nat} {w w' : World} {S : List Nat} {R G : Nat → IR} {m : Nat → Nat} (h : ApsQ K N w R G m) (hc : Chg S w w') (hS : ∀ k ∈ S, NotRow w K.e k ∧ NotRow w K.tr k) : ApsQ K N w' R G m :=
  ⟨fun j hj => by obtain ⟨xs, h1, h2⟩ := h.row j hj; exact ⟨xs, hc.rowOf h1 (fun k hk => (hS k hk).1), fun i hi => ok.stable hc (fun k hk => (hS k hk).2) (h2 i hi)⟩, fun j hj => by obtain ⟨h3, h4, xs, h1, h2⟩ := h.grown j hj; exact ⟨h3, h4, xs, hc.rowOf h1 (fun k hk => (hS k hk).1), fun i hi => ok.stable hc (fun k hk => (hS k hk).2) (h2 i hi)⟩, h.share, h.apart⟩
theorem ApsQ.step {K : Kd} (ok : K.Ok) {N k : Nat} {w w' : World} {R G : Nat → IR} {m : Nat → Nat} (h : ApsQ K N w R G m) (hk : k < N) {s g' : IR} (hs : s = R k ∨ s = G k) {m' : Nat} {ys : List Value} (hown : w'.ownsRow 0 K.e K.m g'.v g'.n ys) (hm : ∀ i, i < m' → K.El w' k i (seg K.m ys i))
    (hg : w.grownBy w' s.blk) (hor : (∃ g cap, s.v = .slice (some ⟨g, 0, none⟩) s.n cap ∧ g'.v = .slice (some ⟨g, 0, none⟩) g'.n cap) ∨ Chg [] w w' ∧ (g'.v = s.v ∨ g'.blk = none ∨ g'.blk = some w.heap.size)) (hn : (R k).n ≤ g'.n) (hm' : (R k).n ≤ m') :
    ApsQ K N w' R (upd G k g') (upd m k m') := by
  have hRk := h.row k hk
  have hnew : RowQ K w' g' m' k := ⟨ys, hown, hm⟩
  have hform : ∀ j, j < N → ∀ x, ((R j).blk = some x ∨ (G j).blk = some x) → x < w.heap.size := fun j hj x hx => by
    obtain ⟨xs, h1, _⟩ := h.row j hj
    obtain ⟨_, _, ys, h2, _⟩ := h.grown j hj
    rcases hx with hx | hx
    · exact (row_beyond h1 hx).2.1
    · exact (row_beyond h2 hx).2.1
  have hRn : (R k).a = none → (R k).n = 0 ∧ (R k).c = 0 := fun ha => by
    obtain ⟨xs, h1, _⟩ := hRk
    rcases row_form h1 with ⟨_, q1, q2, _⟩ | ⟨g, q1, _⟩
    · exact ⟨q1, q2⟩
    · rw [ha] at q1; cases q1
  rcases hor with ⟨g, cap, e1, e2⟩ | ⟨hc, hv⟩
  · have hsb : s.blk = some g := by unfold IR.blk; rw [e1]; rfl
    have hgb : g'.blk = some g := by unfold IR.blk; rw [e2]; rfl
    have hc : Chg [g] w w' := (Chg.refl _ w).grown hg (fun j hj => .inl (by rw [hsb] at hj; cases hj; simp))
    have hga : g'.a = some ⟨g, 0, none⟩ ∧ g'.c = cap := by simp only [IR.v] at e2; cases g'; cases e2; exact ⟨rfl, rfl⟩
    have hsa : s.a = some ⟨g, 0, none⟩ ∧ s.c = cap := by simp only [IR.v] at e1; cases s; cases e1; exact ⟨rfl, rfl⟩
    have hnr : ∀ x ∈ [g], NotRow w K.tr x := fun x hx => by
      simp only [List.mem_singleton] at hx
      subst hx
      rcases hs with rfl | rfl
      · exact (h.row k hk).not hsb ok.ne1
      · exact (h.grown k hk).2.2.not hsb ok.ne1
    have hmine : (R k).blk = some g ∨ (G k).blk = some g := by rcases hs with rfl | rfl; exact .inl hsb; exact .inr hsb
    have hoth : ∀ j, j < N → j ≠ k → ∀ x, ((R j).blk = some x ∨ (G j).blk = some x) → x ≠ g := fun j hj hne x hx e => by
      subst e
      exact h.apart j k hj hk hne x hx hmine
    -- the row itself, when it lies in the block that grew
    have hsame : (R k).blk = some g → g'.a = (R k).a ∧ g'.c = (R k).c := fun hb => by
      rcases hs with rfl | rfl
      · exact ⟨hga.1.trans hsa.1.symm, hga.2.trans hsa.2.symm⟩
      · obtain ⟨q1, q2⟩ := h.share k hk (hsb.trans hb.symm)
        exact ⟨hga.1.trans (hsa.1.symm.trans q1), hga.2.trans (hsa.2.symm.trans q2)⟩
    refine ⟨fun j hj => ?_, fun j hj => ?_, fun j hj => ?_, fun i j hi hj hij x => ?_⟩
    · by_cases e : j = k
      · subst e
        by_cases hb : (R j).blk = some g
        · obtain ⟨q1, q2⟩ := hsame hb
          exact hnew.take q1 q2 hn hm' hRn
        · exact (h.row j hj).chg ok hc (fun x hx hm => by simp at hm; subst hm; exact hb hx) hnr
      · exact (h.row j hj).chg ok hc (fun x hx hm => by simp at hm; exact hoth j hj e x (.inl hx) hm) hnr
    · by_cases e : j = k
      · subst e
        rw [upd_same, upd_same]
        exact ⟨hn, hm', hnew⟩
      · rw [upd_ne _ _ e, upd_ne _ _ e]
        obtain ⟨q1, q2, q3⟩ := h.grown j hj
        exact ⟨q1, q2, q3.chg ok hc (fun x hx hm => by simp at hm; exact hoth j hj e x (.inr hx) hm) hnr⟩
    · by_cases e : j = k
      · subst e
        rw [upd_same]
        intro hb
        exact hsame (hb.symm.trans hgb)
      · rw [upd_ne _ _ e]
        exact h.share j hj
    · by_cases e1 : i = k
      · subst e1
        rw [upd_same, upd_ne _ _ (Ne.symm hij)]
        intro hx
        refine h.apart i j hi hj hij x ?_
        rcases hx with hx | hx
        · exact .inl hx
        · rw [hgb] at hx; cases hx; exact hmine
      · by_cases e2 : j = k
        · subst e2
          rw [upd_same, upd_ne _ _ e1]
          intro hx hy
          refine h.apart i j hi hj hij x hx ?_
          rcases hy with hy | hy
          · exact .inl hy
          · rw [hgb] at hy; cases hy; exact hmine
        · rw [upd_ne _ _ e1, upd_ne _ _ e2]
          exact h.apart i j hi hj hij x
  · have hblk : g'.blk = s.blk ∨ g'.blk = none ∨ g'.blk = some w.heap.size := by
      rcases hv with h1 | h1 | h1
      · left; unfold IR.blk; rw [h1]
      · exact .inr (.inl h1)
      · exact .inr (.inr h1)
    have hbx : ∀ x, g'.blk = some x → ((R k).blk = some x ∨ (G k).blk = some x) ∨ x = w.heap.size := fun x hx => by
      rcases hblk with h1 | h1 | h1
      · rw [h1] at hx
        rcases hs with rfl | rfl
        · exact .inl (.inl hx)
        · exact .inl (.inr hx)
      · rw [h1] at hx; cases hx
      · rw [h1] at hx; cases hx; exact .inr rfl
    refine ⟨fun j hj => (h.row j hj).chg0 ok hc, fun j hj => ?_, fun j hj => ?_, fun i j hi hj hij x => ?_⟩
    · by_cases e : j = k
      · subst e
        rw [upd_same, upd_same]
        exact ⟨hn, hm', hnew⟩
      · rw [upd_ne _ _ e, upd_ne _ _ e]
        obtain ⟨q1, q2, q3⟩ := h.grown j hj
        exact ⟨q1, q2, q3.chg0 ok hc⟩
    · by_cases e : j = k
      · subst e
        rw [upd_same]
        intro hb
        rcases hv with h1 | h1
        · have e2 : g'.a = s.a ∧ g'.c = s.c := by simp only [IR.v] at h1; cases g'; cases s; cases h1; exact ⟨rfl, rfl⟩
          rcases hs with rfl | rfl
          · exact e2
          · have hb2 : (G j).blk = (R j).blk := by rw [← hb]; unfold IR.blk; rw [h1]
            obtain ⟨q1, q2⟩ := h.share j hj hb2
            exact ⟨e2.1.trans q1, e2.2.trans q2⟩
        · rcases h1 with h1 | h1
          · rw [h1] at hb
            obtain ⟨xs, r1, _⟩ := hRk
            rcases row_form r1 with ⟨p1, p2, p3, _⟩ | ⟨g, _, p2, _⟩
            · rcases row_form hown with ⟨z1, z2, z3, _⟩ | ⟨g, _, z2, _⟩
              · exact ⟨z1.trans p1.symm, z3.trans p3.symm⟩
              · rw [h1] at z2; cases z2
            · rw [← hb] at p2; cases p2
          · rw [h1] at hb
            exact absurd (hform j hj _ (.inl hb.symm)) (Nat.lt_irrefl _)
      · rw [upd_ne _ _ e]
        exact h.share j hj
    · by_cases e1 : i = k
      · subst e1
        rw [upd_same, upd_ne _ _ (Ne.symm hij)]
        intro hx hy
        have : ((R i).blk = some x ∨ (G i).blk = some x) ∨ x = w.heap.size := hx.elim (fun hx => .inl (.inl hx)) (hbx x)
        rcases this with hx | rfl
        · exact h.apart i j hi hj hij x hx hy
        · exact absurd (hform j hj _ hy) (Nat.lt_irrefl _)
      · by_cases e2 : j = k
        · subst e2
          rw [upd_same, upd_ne _ _ e1]
          intro hx hy
          have : ((R j).blk = some x ∨ (G j).blk = some x) ∨ x = w.heap.size := hy.elim (fun hy => .inl (.inl hy)) (hbx x)
          rcases this with hy | rfl
          · exact h.apart i j hi hj hij x hx hy
          · exact absurd (hform i hi _ hx) (Nat.lt_irrefl _)
        · rw [upd_ne _ _ e1, upd_ne _ _ e2]
          exact h.apart i j hi hj hij x

/-! ### The rows' own row, and what is known while they are looked at -/
def OuterQ (t : TypeId) (w : World) (b : Option Addr) (c N : Nat) (f : Nat → IR) : Prop := w.ownsRow 0 t 1 (.slice b N c) N ((List.range N).map fun j => (f j).v)
theorem OuterQ.at {t : TypeId} {w : World} {b : Option Addr} {c N : Nat} {f : Nat → IR} (h : OuterQ t w b c N f) {k : Nat} (hk : k < N) : ∃ bL, b = some ⟨bL, 0, none⟩ ∧ bL < w.heap.size ∧ N ≤ c ∧ c ≤ maxLen ∧ w.cell? ⟨bL, k, none⟩ = some (f k).v ∧ w.frozen? ⟨bL, k, none⟩ = false ∧
    ∀ r : IR, OuterQ t (w.setCell ⟨bL, k, none⟩ r.v) b c N (upd f k r) ∧ Chg [bL] w (w.setCell ⟨bL, k, none⟩ r.v) ∧ ∃ cur, w.heap[bL]? = some (.cells cur t (0, 0)) := by
  have hb : ∃ g, b = some ⟨g, 0, none⟩ ∧ g < w.heap.size ∧ N ≤ c ∧ c ≤ maxLen := by
    rcases h.2 with ⟨h0, h1⟩ | ⟨g, cap, cur, h0, hb, hg, hn, hc, _⟩
    · omega
    · cases h0; exact ⟨g, rfl, lt_of_block hg, hn, hc⟩
  obtain ⟨bL, rfl, hlt, h1, h2⟩ := hb
  obtain ⟨q1, q2, q3, q4, q5⟩ := row_put h (i := k) (by omega)
  refine ⟨bL, rfl, hlt, h1, h2, ?_, q2, fun r => ⟨?_, (q5 r.v).2, q4⟩⟩
  · rw [q1]
    simp [hk]
  · have := (q5 r.v).1
    have e : ((List.range N).map fun j => (f j).v).set k r.v = (List.range N).map fun j => (upd f k r j).v := by
      apply List.ext_getElem
      · simp
      · intro j h1 h2
        have hj : j < N := by simpa using h2
        rw [List.getElem_set]
        simp only [List.getElem_map, List.getElem_range, upd]
        by_cases e : k = j
        · subst e; simp
        · rw [if_neg e, if_neg (fun h => e h.symm)]
    rw [e] at this
    exact this
theorem OuterQ.chg {t : TypeId} {w w' : World} {S : List Nat} {b : Option Addr} {c N : Nat} {f : Nat → IR} (h : OuterQ t w b c N f) (hc : Chg S w w') (hS : ∀ x ∈ S, NotRow w t x) : OuterQ t w' b c N f := hc.rowOf h hS
theorem OuterQ.chg0 {t : TypeId} {w w' : World} {b : Option Addr} {c N : Nat} {f : Nat → IR} (h : OuterQ t w b c N f) (hc : Chg [] w w') : OuterQ t w' b c N f := hc.rowOf h (by simp)

structure ApSQ (K : Kd) (N : Nat) (w0 : World) (S : List Nat) (b : Option Addr) (cL : Nat) (gb : Nat) (w : World) (R G F : Nat → IR) (m : Nat → Nat) : Prop where
  aps : ApsQ K N w R G m
  fr : ∀ j, j < N → ∀ x, ((R j).blk = some x ∨ (G j).blk = some x) → x ∈ S ∨ w0.heap.size ≤ x
  chg : Chg S w0 w
  ls : OuterQ K.t w b cL N R
  gs : OuterQ K.t w (some ⟨gb, 0, none⟩) N N F
  gnew : w0.heap.size ≤ gb
theorem ApSQ.chg0 {K : Kd} (ok : K.Ok) {N : Nat} {w0 : World} {S : List Nat} {b : Option Addr} {cL gb : Nat} {w w' : World} {R G F : Nat → IR} {m : Nat → Nat} (h : ApSQ K N w0 S b cL gb w R G F m) (hc : Chg [] w w') : ApSQ K N w0 S b cL gb w' R G F m :=
  ⟨h.aps.chg0 ok hc, h.fr, h.chg.tr0 hc, h.ls.chg0 hc, h.gs.chg0 hc, h.gnew⟩
theorem ApSQ.step {K : Kd} (ok : K.Ok) {N k : Nat} {w0 : World} {S : List Nat} {b : Option Addr} {cL gb : Nat} {w w' : World} {R G F : Nat → IR} {m : Nat → Nat} (h : ApSQ K N w0 S b cL gb w R G F m) (hk : k < N) {s g' : IR} (hs : s = R k ∨ s = G k) {m' : Nat} {ys : List Value} (hown : w'.ownsRow 0 K.e K.m g'.v g'.n ys) (hm : ∀ i, i < m' → K.El w k i (seg K.m ys i))
    (hg : w.grownBy w' s.blk) (hor : (∃ g cap, s.v = .slice (some ⟨g, 0, none⟩) s.n cap ∧ g'.v = .slice (some ⟨g, 0, none⟩) g'.n cap) ∨ Chg [] w w' ∧ (g'.v = s.v ∨ g'.blk = none ∨ g'.blk = some w.heap.size)) (hn : (R k).n ≤ g'.n) (hm' : (R k).n ≤ m') :
    ApSQ K N w0 S b cL gb w' R (upd G k g') F (upd m k m') := by
  have hsb : ∀ x, s.blk = some x → ((R k).blk = some x ∨ (G k).blk = some x) := fun x hx => by rcases hs with rfl | rfl; exact .inl hx; exact .inr hx
  have hnr : ∀ x ∈ s.blk.toList, NotRow w K.t x := fun x hx => by
    have hx : s.blk = some x := by simpa using hx
    rcases hs with rfl | rfl
    · exact (h.aps.row k hk).not hx ok.ne3
    · exact (h.aps.grown k hk).2.2.not hx ok.ne3
  have hnr2 : ∀ x ∈ s.blk.toList, NotRow w K.tr x := fun x hx => by
    have hx : s.blk = some x := by simpa using hx
    rcases hs with rfl | rfl
    · exact (h.aps.row k hk).not hx ok.ne1
    · exact (h.aps.grown k hk).2.2.not hx ok.ne1
  have hc : Chg s.blk.toList w w' := (Chg.refl _ w).grown hg (fun k hk => .inl (by rw [hk]; simp))
  refine ⟨h.aps.step ok hk hs hown (fun i hi => ok.stable hc hnr2 (hm i hi)) hg hor hn hm', fun j hj x hx => ?_, h.chg.grown hg (fun x hx => h.fr k hk x (hsb x hx)), h.ls.chg hc hnr, h.gs.chg hc hnr, h.gnew⟩
  by_cases e : j = k
  · subst e
    rw [upd_same] at hx
    rcases hx with hx | hx
    · exact h.fr j hj x (.inl hx)
    · rcases hor with ⟨g, cap, e1, e2⟩ | ⟨_, e1 | e1 | e1⟩
      · refine h.fr j hj x (hsb x ?_)
        unfold IR.blk at hx ⊢
        rw [e2] at hx
        rw [e1]
        exact hx
      · refine h.fr j hj x (hsb x ?_)
        unfold IR.blk at hx ⊢
        rw [e1] at hx
        exact hx
      · rw [e1] at hx; cases hx
      · rw [e1] at hx; cases hx
        exact .inr h.chg.size
  · rw [upd_ne _ _ e] at hx
    exact h.fr j hj x hx
theorem ApSQ.put {K : Kd} (ok : K.Ok) {N k : Nat} {w0 : World} {S : List Nat} {b : Option Addr} {cL gb : Nat} {w : World} {R G F : Nat → IR} {m : Nat → Nat} (h : ApSQ K N w0 S b cL gb w R G F m) (hk : k < N) (hbL : b ≠ some ⟨gb, 0, none⟩) (r : IR) : ApSQ K N w0 S b cL gb (w.setCell ⟨gb, k, none⟩ r.v) R G (upd F k r) m := by
  obtain ⟨bL, e, hlt, _, _, _, _, hput⟩ := h.gs.at hk
  cases e
  obtain ⟨h1, h2, cur, h3⟩ := hput r
  have hn : ∀ x ∈ [gb], NotRow w K.e x ∧ NotRow w K.tr x := fun x hx => by simp only [List.mem_singleton] at hx; subst hx; exact ⟨.of_cells h3 (fun h => ok.ne3 h.symm), .of_cells h3 ok.ne2⟩
  refine ⟨h.aps.chgT ok h2 hn, h.fr, h.chg.setCell (p := ⟨gb, k, none⟩) (.inr h.gnew) _, ?_, h1, h.gnew⟩
  refine h2.row h.ls (fun x hx hm => ?_)
  simp only [List.mem_singleton] at hm
  subst hm
  rcases h.ls.2 with ⟨h0, h9⟩ | ⟨g, cap, cur, h0, _⟩
  · omega
  · cases h0
    cases hx
    exact hbL rfl

theorem made_full {P : Program} {t e : TypeId} {i : TypeInfo} {z : Value} {size : Nat} (ht : P.underlying t = some (.slice e)) (hi : P.info? e = some i) (hz : i.zero = some z) (hsize : i.size = size) (hzs : z.cells.size = size) (hpos : 0 < size) (hone : ∀ u ∈ z.cells, u.oneCell' = true) (m : Nat) (hb : i.bytes * m ≤ 281474976710656) (h63 : m ≤ maxLen) :
    ∃ ob, (∀ W : World, (Instr.makeSlice t (.int .i64 (m : Int)) (.int .i64 (m : Int))).run P W = .ok (.slice (some ⟨W.heap.size, 0, none⟩) m m) (W.alloc ob)) ∧ ∃ zs, (∀ W : World, (W.alloc ob).ownsRow 0 e size (.slice (some ⟨W.heap.size, 0, none⟩) m m) m zs) ∧ (∀ u ∈ zs, u.oneCell' = true) ∧ ∀ j, j < m * size → zs[j]? = z.cells[j % size]? := by
  subst hsize
  have h63' : (m : Int) ≤ 9223372036854775807 := by simp only [maxLen] at h63; omega
  have hb' : (i.bytes : Int) * (m : Int) ≤ 281474976710656 := by
    have h : ((i.bytes * m : Nat) : Int) ≤ 281474976710656 := by omega
    rwa [Int.natCast_mul] at h
  refine ⟨.cells (madeCells z.cells (m * i.size)) e, fun W => ?_, (madeCells z.cells (m * i.size)).toList, fun W => ?_, fun u hu => ?_, fun j hj => ?_⟩
  · have h1 := run_make (P := P) W t e i z ht hi hz .i64 .i64 m m (by omega) (by omega) hb' h63'
    simp only [Int.toNat_natCast] at h1
    exact h1
  · refine ⟨by simp [size_madeCells], .inr ⟨W.heap.size, m, _, rfl, Nat.zero_le _, heap_alloc_same _ _, Nat.le_refl _, h63, by rw [size_madeCells], ?_⟩⟩
    rw [List.take_of_length_le (by rw [Array.length_toList, size_madeCells]; exact Nat.le_refl _)]
  · simp only [madeCells, Array.toList_map, List.mem_map, Array.toList_range, List.mem_range] at hu
    obtain ⟨j, hj, rfl⟩ := hu
    have hlt : j % z.cells.size < z.cells.size := Nat.mod_lt _ (by omega)
    rw [getElem!_pos z.cells _ hlt]
    exact hone _ (Array.getElem_mem hlt)
  · have hlt : j % z.cells.size < z.cells.size := Nat.mod_lt _ (by omega)
    rw [← hzs, Array.getElem?_toList, Array.getElem?_eq_getElem (by rw [size_madeCells, hzs]; exact hj), Array.getElem?_eq_getElem hlt]
    simp [madeCells, hlt]
theorem made_outer {P : Program} {tt t : TypeId} (ht : P.underlying tt = some (.slice t)) (hi : (P.info? t).map (fun i => (i.zero, i.size, i.bytes)) = some (some (.slice none 0 0), 1, 24)) (N : Nat) (hN : N ≤ 1000000) : ∃ ob, (∀ W : World, (Instr.makeSlice tt (.int .i64 N) (.int .i64 N)).run P W = .ok (.slice (some ⟨W.heap.size, 0, none⟩) N N) (W.alloc ob)) ∧ ∀ W : World, OuterQ t (W.alloc ob) (some ⟨W.heap.size, 0, none⟩) N N (fun _ => ⟨none, 0, 0⟩) := by
  obtain ⟨i0, hi, hz0, hz1, hz2⟩ := info_parts hi
  obtain ⟨ob, h1, zs, h2, _, h4⟩ := made_full (P := P) ht hi hz0 hz1 rfl (by decide) (by simp [Value.cells, Value.oneCell']) N (by rw [hz2]; omega) (by simp only [maxLen]; omega)
  refine ⟨ob, h1, fun W => ?_⟩
  have := h2 W
  have e : zs = (List.range N).map fun j => (IR.v ⟨none, 0, 0⟩) := by
    apply List.ext_getElem?
    intro j
    by_cases hj : j < N
    · rw [h4 j (by omega), Nat.mod_one]
      simp [hj, Value.cells, IR.v]
    · have hl := this.1
      rw [List.getElem?_eq_none (by omega), List.getElem?_eq_none (by simp; omega)]
  rw [e] at this
  exact this

def marksQ (K : Kd) (N : Nat) (w : World) (R : Nat → IR) (k i : Nat) : Prop := ∀ j, j < N → RowQ K w (R j) (if j < k then (R j).n else if j = k then i else 0) j
def nilQ : IR := ⟨none, 0, 0⟩
/-- Rows of their own that lie apart. -/
structure ApartQ (K : Kd) (N : Nat) (w : World) (S : List Nat) (R : Nat → IR) : Prop where
  row : ∀ j, j < N → RowQ K w (R j) 0 j
  apart : ∀ i j, i < N → j < N → i ≠ j → ∀ x, (R i).blk = some x → (R j).blk ≠ some x
  mem : ∀ j, j < N → ∀ x, (R j).blk = some x → x ∈ S
  all : ∀ x ∈ S, NotRow w K.t x
/-- Cells of a row are written. -/
theorem row_puts {B e size n c g : Nat} : ∀ (vs : List Value) (o : Nat) (W : World) (xs : List Value), W.ownsRow B e size (.slice (some ⟨g, 0, none⟩) n c) n xs → o + vs.length ≤ n * size →
    ∃ W' ys, W' = (vs.zipIdx o).foldl (fun W p => W.setCell ⟨g, p.2, none⟩ p.1) W ∧ W'.ownsRow B e size (.slice (some ⟨g, 0, none⟩) n c) n ys ∧ Chg [g] W W' ∧ (∀ j, ys[j]? = if o ≤ j ∧ j < o + vs.length then vs[j - o]? else xs[j]?) ∧ ∀ u ∈ ys, u ∈ xs ∨ u ∈ vs := by
  intro vs
  induction vs with
  | nil => intro o W xs h _; exact ⟨W, xs, rfl, h, Chg.refl _ _, (fun j => by rw [if_neg (by simp)]), fun u hu => .inl hu⟩
  | cons v vs ih =>
    intro o W xs h ho
    simp only [List.length_cons] at ho
    obtain ⟨_, _, _, _, hp⟩ := row_put h (i := o) (by omega)
    obtain ⟨h1, h2⟩ := hp v
    obtain ⟨W', ys, q1, q2, q3, q4, q5⟩ := ih (o + 1) _ _ h1 (by omega)
    refine ⟨W', ys, q1, q2, h2.tr q3, fun j => ?_, ?mem⟩
    case mem =>
      intro u hu
      rcases q5 u hu with h | h
      · rcases List.mem_or_eq_of_mem_set h with h | rfl
        · exact .inl h
        · exact .inr (by simp)
      · exact .inr (by simp [h])
    rw [q4 j]
    have hl := h.1
    by_cases hj : j = o
    · subst hj
      rw [if_neg (by omega), if_pos (by simp), List.getElem?_set_self (by omega)]
      simp
    · rw [List.getElem?_set_ne (fun e => hj e.symm)]
      by_cases h3 : o + 1 ≤ j ∧ j < o + 1 + vs.length
      · rw [if_pos h3, if_pos (by simp only [List.length_cons]; omega), show j - o = (j - (o + 1)) + 1 by omega, List.getElem?_cons_succ]
      · rw [if_neg h3, if_neg (by simp only [List.length_cons]; omega)]
theorem marksQ.chg0 {K : Kd} (ok : K.Ok) {N : Nat} {w w' : World} {R : Nat → IR} {k i : Nat} (h : marksQ K N w R k i) (hc : Chg [] w w') : marksQ K N w' R k i := fun j hj => (h j hj).chg0 ok hc
/-- An element is marked. -/
theorem marksQ.put {K : Kd} (ok : K.Ok) {N : Nat} {w0 : World} {S : List Nat} {R : Nat → IR} (hap : ApartQ K N w0 S R) {k i : Nat} (hk : k < N) {W : World} (hm : marksQ K N W R k i) {g rn rc : Nat} (hv : R k = ⟨some ⟨g, 0, none⟩, rn, rc⟩) (hi : i < rn) (vs : List Value) (hvs : K.El W k i vs) :
    (∀ q, q < K.m → (∃ v, W.cell? ⟨g, i * K.m + q, none⟩ = some v) ∧ W.frozen? ⟨g, i * K.m + q, none⟩ = false) ∧ g ∈ S ∧ ∃ W9, W9 = (vs.zipIdx (i * K.m)).foldl (fun W p => W.setCell ⟨g, p.2, none⟩ p.1) W ∧ marksQ K N W9 R k (i + 1) ∧ Chg [g] W W9 := by
  obtain ⟨xs, h1, h2⟩ := hm k hk
  simp only [Nat.lt_irrefl, if_false, if_true] at h2
  have hb : (R k).blk = some g := by rw [hv]; rfl
  have hnr : ∀ x ∈ [g], NotRow W K.tr x := fun x hx => by
    simp only [List.mem_singleton] at hx
    subst hx
    exact (hm k hk).not hb ok.ne1
  have h1' : W.ownsRow 0 K.e K.m (.slice (some ⟨g, 0, none⟩) rn rc) rn xs := by rw [hv] at h1; exact h1
  have hl := ok.len hvs
  obtain ⟨W9, ys, e9, o9, c9, g9, -⟩ := row_puts vs (i * K.m) W xs h1' (by rw [hl]; have := Nat.mul_le_mul_right K.m (show i + 1 ≤ rn from hi); rw [Nat.succ_mul] at this; omega)
  refine ⟨fun q hq => ?_, hap.mem k hk g hb, W9, e9, fun j hj => ?_, c9⟩
  · obtain ⟨q1, q2, _⟩ := row_put h1' (i := i * K.m + q) (seg_lt hi hq)
    refine ⟨?_, q2⟩
    rw [q1]
    exact ⟨_, List.getElem?_eq_getElem (by rw [h1'.1]; exact seg_lt hi hq)⟩
  · by_cases e : j = k
    · subst e
      rw [if_neg (Nat.lt_irrefl _), if_pos rfl]
      refine ⟨ys, by rw [hv]; exact o9, fun q hq => ok.stable c9 hnr ?_⟩
      by_cases e : q = i
      · subst e
        rw [seg_ext hl (fun r hr => by rw [g9, if_pos (by omega), show q * K.m + r - q * K.m = r by omega])]
        exact hvs
      · have hs : seg K.m ys q = seg K.m xs q := by
          apply List.ext_getElem?
          intro r
          by_cases hr : r < K.m
          · have := seg_lt (show q < i by omega) hr
            rw [seg_get hr, seg_get hr, g9, if_neg (by omega)]
          · rw [seg_none hr, seg_none hr]
        rw [hs]
        exact h2 q (by omega)
    · have h5 := hm j hj
      rw [if_neg e] at h5 ⊢
      refine h5.chg ok c9 (fun x hx hm => ?_) hnr
      simp only [List.mem_singleton] at hm
      subst hm
      exact hap.apart j k hj hk e x hx hb
end Go.Proofs.YtibgfgfmljhimaaGreat
