/-
  Copies of a grammar's lists, in memory of their own.
  Conditions: the lists read as data; they are within the reach.
-/
import Derived.Test.YtffjfkjlahdedaaSnsG06A
import Derived.Laws.AppendOwnNone
set_option linter.unusedVariables false
set_option linter.unusedSimpArgs false
namespace Go.Proofs.Ytffjfkjlahdedaa
open Go.RowKit Go.MapKept Go.Shelf

theorem ints_none {w : World} {zs : List Int} (h : Ints w none zs) : zs = [] := by
  cases zs with
  | nil => rfl
  | cons z zs => obtain ⟨b, o, h1, _⟩ := h 0 (by simp); cases h1
theorem ints_some {w : World} {b : Addr} {zs : List Int} (h : Ints w (some b) zs) : ∀ j u, (zs.map (Value.int .i64))[j]? = some u → w.cell? (b.add j) = some u := by
  intro j u hu
  rw [List.getElem?_map] at hu
  cases hz : zs[j]? with
  | none => rw [hz] at hu; cases hu
  | some z =>
    rw [hz] at hu
    simp only [Option.map_some, Option.some.injEq] at hu
    subst hu
    obtain ⟨hj, hzj⟩ := List.getElem?_eq_some_iff.1 hz
    obtain ⟨b', o, h1, h2⟩ := h j hj
    simp only [Option.some.injEq] at h1
    subst h1
    rw [Addr.add_lit, h2, hzj]
/-- An append of a nil list, whatever its room says. -/
theorem run_append_nil {P : Program} {w : World} (base : Nat) (t ty e : TypeId) (i : TypeInfo) (size : Nat) (c : Nat) (ht : P.underlying t = some (.slice e)) (hi : P.info? e = some i)
    (v : Value) (n : Nat) (xs : List Value) (hown : w.ownsRow base e size v n xs) :
    (Builtin.append_ #[t, t] ty #[v, .slice none 0 c]).run P w = .ok v w := by
  rcases hown.2 with ⟨rfl, rfl⟩ | ⟨g, cap, cur, rfl, _, _, hnc, _⟩
  · simp [Builtin.append_, run_underlying ht, sizeOf, typeInfo, hi, Builtin.lenOf, Builtin.firstCells]
  · simp [Builtin.append_, run_underlying ht, sizeOf, typeInfo, hi, Builtin.lenOf, Builtin.firstCells, hnc, storeCells]
theorem wpList_append_nil {P : Program} {w : World} {ops : Array Oper} {rest : List Oper} {o : Oper} {a : Act} {Q : Exit → Act → World → Prop} (hgd : o.guard = none) (s x : Operand) (t : TypeId)
    (ho : o.op = .call { callee := .builtin .append, args := #[s, x], argTypes := #[t, t] })
    (base : Nat) (e : TypeId) (i : TypeInfo) (size : Nat) (c : Nat) (ht : P.underlying t = some (.slice e)) (hi : P.info? e = some i)
    (v : Value) (n : Nat) (xs : List Value) (hs : a.eval s = v) (hown : w.ownsRow base e size v n xs) (hx : a.eval x = .slice none 0 c)
    (h : wpList P ops Q rest (a.put o.dst v) w) : wpList P ops Q (o :: rest) a w := by
  refine wpList_plain hgd fun K hK => ?_
  have hrun := run_append_nil (P := P) (w := w) base t o.type e i size c ht hi v n xs hown
  unfold Oper.wp
  simp [execOp, ho, resolve, invoke, builtin, hs, hx, hrun, Result.andThen]
  exact hK _ _ h
/-- A row of one's own, new, that holds numbers. -/
def NewInts (w : World) (zs : List Int) (e : Ending) (w' : World) : Prop :=
  ∃ a c, e = .returned (.slice a zs.length c) ∧ OwnInts w' (.slice a zs.length c) zs ∧ Chg [] w w'

end Go.Proofs.Ytffjfkjlahdedaa
set_option linter.unusedVariables false
set_option linter.unusedSimpArgs false
namespace Go.Proofs.Ytffjfkjlahdedaa
open Go.RowKit Go.MapKept Go.Shelf

theorem flat_len {α β : Type} (f : α → List β) (m : Nat) (hf : ∀ a, (f a).length = m) (l : List α) : (l.flatMap f).length = l.length * m := by
  induction l with
  | nil => simp
  | cons a l ih => simp [hf, ih, Nat.add_mul, Nat.add_comm]
theorem flat_get {α β : Type} (f : α → List β) (m : Nat) (hf : ∀ a, (f a).length = m) : ∀ (l : List α) (i r : Nat), r < m → (l.flatMap f)[i * m + r]? = l[i]?.bind fun a => (f a)[r]?
  | [], i, r, h => by simp
  | a :: l, 0, r, h => by
    simp only [List.flatMap_cons, Nat.zero_mul, Nat.zero_add, List.getElem?_cons_zero, Option.bind_some]
    rw [List.getElem?_append_left (by rw [hf]; exact h)]
  | a :: l, i + 1, r, h => by
    simp only [List.flatMap_cons, List.getElem?_cons_succ]
    rw [List.getElem?_append_right (by rw [hf, Nat.add_mul]; omega), hf, ← flat_get f m hf l i r h]
    congr 1
    rw [Nat.add_mul]
    omega

/-! ### Rules -/
def Rl.cells (r : Rl) : List Value := [.string r.name, .int .i64 r.body]
def rulesCells (rs : List Rl) : List Value := rs.flatMap Rl.cells
theorem rules_some {w : World} {b : Addr} {rs : List Rl} (h : Rules w (some b) rs) : ∀ j u, (rulesCells rs)[j]? = some u → w.cell? (b.add j) = some u := by
  intro j u hu
  have e : j = j / 2 * 2 + j % 2 := by omega
  rw [e, rulesCells, flat_get Rl.cells 2 (fun _ => rfl) rs _ _ (Nat.mod_lt _ (by decide))] at hu
  cases hr : rs[j / 2]? with
  | none => rw [hr] at hu; cases hu
  | some r =>
    rw [hr] at hu
    simp only [Option.bind_some] at hu
    obtain ⟨hj, hzj⟩ := List.getElem?_eq_some_iff.1 hr
    obtain ⟨b', o, h1, h2, h3⟩ := h (j / 2) hj
    simp only [Option.some.injEq] at h1
    subst h1
    rw [hzj] at h2 h3
    rw [Addr.add_lit]
    rcases (show j % 2 = 0 ∨ j % 2 = 1 by omega) with h0 | h0
    · rw [h0] at hu
      rw [show o + j = o + j / 2 * 2 by omega, h2]
      exact hu
    · rw [h0] at hu
      rw [show o + j = o + j / 2 * 2 + 1 by omega, h3]
      exact hu
theorem rules_none {w : World} {rs : List Rl} (h : Rules w none rs) : rs = [] := by
  cases rs with
  | nil => rfl
  | cons z zs => obtain ⟨b, o, h1, _⟩ := h 0 (by simp); cases h1
theorem rulesCells_len (rs : List Rl) : (rulesCells rs).length = rs.length * 2 := flat_len Rl.cells 2 (fun _ => rfl) rs
/-- A list of rules, new. -/
def NewRules (w : World) (rs : List Rl) (e : Ending) (w' : World) : Prop :=
  ∃ a c, e = .returned (.slice a rs.length c) ∧ Rules w' a rs ∧ rs.length ≤ c ∧ c ≤ maxLen ∧ Chg [] w w'

/-! ### One node -/
theorem nine_set {w : World} {b : Nat} {v0 v1 v2 v3 v4 v5 v6 v7 v8 : Value} {t : TypeId} {m : Nat × Nat} (h : w.heap[b]? = some (.cells #[v0, v1, v2, v3, v4, v5, v6, v7, v8] t m)) (u0 u1 u2 u3 u4 u5 u6 u7 u8 : Value) :
    ∃ w', w' = (((((((((w.setCell ⟨b, 0, none⟩ u0).setCell ⟨b, 1, none⟩ u1).setCell ⟨b, 2, none⟩ u2).setCell ⟨b, 3, none⟩ u3).setCell ⟨b, 4, none⟩ u4).setCell ⟨b, 5, none⟩ u5).setCell ⟨b, 6, none⟩ u6).setCell ⟨b, 7, none⟩ u7).setCell ⟨b, 8, none⟩ u8) ∧ w'.heap[b]? = some (.cells #[u0, u1, u2, u3, u4, u5, u6, u7, u8] t m) ∧ Chg [b] w w' := by
  refine ⟨_, rfl, ?_, ?_⟩
  · have z1 := heap_setCell_same h 0 u0
    have z2 := heap_setCell_same z1 1 u1
    have z3 := heap_setCell_same z2 2 u2
    have z4 := heap_setCell_same z3 3 u3
    have z5 := heap_setCell_same z4 4 u4
    have z6 := heap_setCell_same z5 5 u5
    have z7 := heap_setCell_same z6 6 u6
    have z8 := heap_setCell_same z7 7 u7
    have z9 := heap_setCell_same z8 8 u8
    rw [z9]
    simp
  · exact (((((((((Chg.refl [b] w).setCell (p := ⟨b, 0, none⟩) (.inl (by simp)) u0).setCell (p := ⟨b, 1, none⟩) (.inl (by simp)) u1).setCell (p := ⟨b, 2, none⟩) (.inl (by simp)) u2).setCell (p := ⟨b, 3, none⟩) (.inl (by simp)) u3).setCell (p := ⟨b, 4, none⟩) (.inl (by simp)) u4).setCell (p := ⟨b, 5, none⟩) (.inl (by simp)) u5).setCell (p := ⟨b, 6, none⟩) (.inl (by simp)) u6).setCell (p := ⟨b, 7, none⟩) (.inl (by simp)) u7).setCell (p := ⟨b, 8, none⟩) (.inl (by simp)) u8
def NewNode (w : World) (x : Nd) (e : Ending) (w' : World) : Prop :=
  ∃ a c, e = .returned (.agg (x.cells a x.kids.length c)) ∧ OwnInts w' (.slice a x.kids.length c) x.kids ∧ Chg [] w w'

end Go.Proofs.Ytffjfkjlahdedaa
set_option linter.unusedVariables false
set_option linter.unusedSimpArgs false
namespace Go.Proofs.Ytffjfkjlahdedaa
open Go.RowKit Go.MapKept Go.Shelf

abbrev Cp := Nd × Option Addr × Nat
def Cp.cells (p : Cp) : List Value := (p.1.cells p.2.1 p.1.kids.length p.2.2).toList
def nodesCells (L : List Cp) : List Value := L.flatMap Cp.cells
theorem cp_len (p : Cp) : p.cells.length = 9 := rfl
theorem nodes_none {w : World} {ns : List Nd} (h : Nodes w none ns) : ns = [] := by
  cases ns with
  | nil => rfl
  | cons z zs => obtain ⟨b, o, _, _, _, h1, _⟩ := h 0 (by simp); cases h1
theorem row_notrow {w : World} {base e e' size n k : Nat} {v : Value} {xs : List Value} (h : w.ownsRow base e size v n xs) (hv : v.ownBlock = some k) (ht : e ≠ e') : NotRow w e' k := by
  rcases h.2 with ⟨h0, h1⟩ | ⟨g, cap, cur, h0, hb, hg, _⟩
  · subst h0; cases hv
  · subst h0
    cases hv
    exact NotRow.of_cells hg ht
def NewNodes (w : World) (ns : List Nd) (e : Ending) (w' : World) : Prop :=
  ∃ a c, e = .returned (.slice a ns.length c) ∧ Nodes w' a ns ∧ ns.length ≤ c ∧ c ≤ maxLen ∧ Chg [] w w'
end Go.Proofs.Ytffjfkjlahdedaa
set_option linter.unusedVariables false
set_option linter.unusedSimpArgs false
namespace Go.Proofs.Ytffjfkjlahdedaa
open Go.RowKit Go.MapKept Go.Shelf

/-- A block of two slices. -/
def TwoS (w : World) (T : Nat) (ty : TypeId) : Prop := ∃ a1 n1 c1 a2 n2 c2, w.heap[T]? = some (.cells #[.slice a1 n1 c1, .slice a2 n2 c2] ty (0, 0))
theorem two_ne {w : World} {T : Nat} {ty : TypeId} (hT : TwoS w T ty) {p : Addr} {v : Value} (h : w.cell? p = some v) (hv : ∀ a n c, v ≠ .slice a n c) : p.block ≠ T := by
  intro he
  obtain ⟨a1, n1, c1, a2, n2, c2, hT⟩ := hT
  obtain ⟨b, o, s⟩ := p
  simp only at he
  subst he
  have hs : s = none := by
    cases s with
    | none => rfl
    | some _ => simp [World.cell?, hT] at h
  subst hs
  rw [cell_of_cells hT] at h
  rcases o with _ | _ | o
  · simp at h; exact hv _ _ _ h.symm
  · simp at h; exact hv _ _ _ h.symm
  · simp at h
theorem Ints.two {w w' : World} {T : Nat} {ty : TypeId} {a : Option Addr} {zs : List Int} (h : Ints w a zs) (hT : TwoS w T ty) (hc : Chg [T] w w') : Ints w' a zs := fun i hi => by
  obtain ⟨b, o, h1, h2⟩ := h i hi
  have := two_ne hT h2 (by intro a n c e; cases e)
  exact ⟨b, o, h1, hc.cell h2 (by simpa using this)⟩
theorem Rules.two {w w' : World} {T : Nat} {ty : TypeId} {a : Option Addr} {rs : List Rl} (h : Rules w a rs) (hT : TwoS w T ty) (hc : Chg [T] w w') : Rules w' a rs := fun i hi => by
  obtain ⟨b, o, h1, h2, h3⟩ := h i hi
  have := two_ne hT h2 (by intro a n c e; cases e)
  exact ⟨b, o, h1, hc.cell h2 (by simpa using this), hc.cell h3 (by simpa using this)⟩
theorem Nodes.two {w w' : World} {T : Nat} {ty : TypeId} {a : Option Addr} {ns : List Nd} (h : Nodes w a ns) (hT : TwoS w T ty) (hc : Chg [T] w w') : Nodes w' a ns := fun i hi => by
  obtain ⟨b, o, ak, nk, ck, h1, h2⟩ := h i hi
  have hb := two_ne hT h2.k (by intro a n c e; cases e)
  have key : ∀ {q : Nat} {v : Value}, w.cell? ⟨b, q, none⟩ = some v → w'.cell? ⟨b, q, none⟩ = some v := fun h => hc.cell h (by simpa using hb)
  exact ⟨b, o, ak, nk, ck, h1, ⟨key h2.k, key h2.c0, key h2.c1, key h2.c2, key h2.c3, key h2.s, key h2.r, key h2.l, key h2.kids, h2.len, h2.le, h2.cap, h2.ints.two hT hc⟩⟩

def NewGram (w : World) (g : Gr) (e : Ending) (w' : World) : Prop :=
  ∃ b1 d1 b2 d2, e = .returned (.agg #[.slice b1 g.rules.length d1, .slice b2 g.nodes.length d2]) ∧ GramAt w' b1 g.rules.length d1 b2 g.nodes.length d2 g ∧ Chg [] w w'

end Go.Proofs.Ytffjfkjlahdedaa
