/-
 Copies of a grammar's lists, in memory of their own.
 Conditions: the lists read as data; they are within the reach.
-/
import Derived.Test.YtlklmpjakeedcaaGreatDoorSEnNuB
import Derived.Laws.AppendOwnNone
import Derived.Lib.SliceRun
import Derived.Maps.AppendAt
import Derived.Test.YtlklmpjakeedcaaGreatDoorSEnGMix
import Derived.Shelf.Abstract
import Derived.Shelf.RegionOpen
import Derived.WalkKit
import Derived.OwnWalkIn
import Derived.TacticsInMore
import Derived.LoopNIn
import Derived.LoopIn
import Derived.Sort.LoopGhostIn
set_option linter.unusedVariables false
set_option linter.unusedSimpArgs false
namespace Go.Proofs.YtlklmpjakeedcaaGreatDoor
open Go.RowKit Go.MapKept Go.Shelf

theorem Tryz.infoRule : (Tryz.prog.info? 53).map (fun i => (i.zero, i.size, i.bytes)) = some (some (.agg #[.string ⟨#[]⟩, .int .i64 0]), 2, 24) := by kernel_rfl
theorem Tryz.infoNode : (Tryz.prog.info? 65).map (fun i => (i.zero, i.size, i.bytes)) = some (some (.agg #[.int .i64 0, .int .u64 0, .int .u64 0, .int .u64 0, .int .u64 0, .string ⟨#[]⟩, .int .i64 0, .int .i64 0, .slice none 0 0]), 9, 96) := by kernel_rfl

theorem ints_none {w : World} {zs : List Int} (h : Ints w none zs) : zs = [] := by
 cases zs with
 | nil => rfl
 | cons z zs => obtain ⟨b, o, h1, _⟩ := h 0 (by simp); cases h1
theorem ints_some {w : World} {b : Addr} {zs : List Int} (h : Ints w (some b) zs) : ∀ j u, (zs.map (Value.int .i64))[j]? = some u → w.cell? (b.add j) = some u := by
 intro j u hu
 rw [List.getElem?_map] at hu
 cases hz : zs[j]? with
 | none => rw [hz] at hu; cases hu
 | some z =>
  rw [hz] at hu
  simp only [Option.map_some, Option.some.injEq] at hu
  subst hu
  obtain ⟨hj, hzj⟩ := List.getElem?_eq_some_iff.1 hz
  obtain ⟨b', o, h1, h2⟩ := h j hj
  simp only [Option.some.injEq] at h1
  subst h1
  rw [Addr.add_lit, h2, hzj]
/-- An append of a nil list, whatever its room says. -/
theorem run_append_nil {P : Program} {w : World} (base : Nat) (t ty e : TypeId) (i : TypeInfo) (size : Nat) (c : Nat) (ht : P.underlying t = some (.slice e)) (hi : P.info? e = some i)
  (v : Value) (n : Nat) (xs : List Value) (hown : w.ownsRow base e size v n xs) :
  (Builtin.append_ #[t, t] ty #[v, .slice none 0 c]).run P w = .ok v w := by
 rcases hown.2 with ⟨rfl, rfl⟩ | ⟨g, cap, cur, rfl, _, _, hnc, _⟩
 ·simp [Builtin.append_, run_underlying ht, sizeOf, typeInfo, hi, Builtin.lenOf, Builtin.firstCells]
 ·simp [Builtin.append_, run_underlying ht, sizeOf, typeInfo, hi, Builtin.lenOf, Builtin.firstCells, hnc, storeCells]
theorem wpList_append_nil {P : Program} {w : World} {ops : Array Oper} {rest : List Oper} {o : Oper} {a : Act} {Q : Exit → Act → World → Prop} (hgd : o.guard = none) (s x : Operand) (t : TypeId)
  (ho : o.op = .call { callee := .builtin .append, args := #[s, x], argTypes := #[t, t] })
  (base : Nat) (e : TypeId) (i : TypeInfo) (size : Nat) (c : Nat) (ht : P.underlying t = some (.slice e)) (hi : P.info? e = some i)
  (v : Value) (n : Nat) (xs : List Value) (hs : a.eval s = v) (hown : w.ownsRow base e size v n xs) (hx : a.eval x = .slice none 0 c)
  (h : wpList P ops Q rest (a.put o.dst v) w) : wpList P ops Q (o :: rest) a w := by
 refine wpList_plain hgd fun K hK => ?_
 have hrun := run_append_nil (P := P) (w := w) base t o.type e i size c ht hi v n xs hown
 unfold Oper.wp
 simp [execOp, ho, resolve, invoke, builtin, hs, hx, hrun, Result.andThen]
 exact hK _ _ h
end Go.Proofs.YtlklmpjakeedcaaGreatDoor
set_option linter.unusedVariables false
set_option linter.unusedSimpArgs false
namespace Go.Proofs.YtlklmpjakeedcaaGreatDoor
open Go.RowKit Go.MapKept Go.Shelf

theorem flat_len {α β : Type} (f : α → List β) (m : Nat) (hf : ∀ a, (f a).length = m) (l : List α) : (l.flatMap f).length = l.length * m := by
 induction l with
 | nil => simp
 | cons a l ih => simp [hf, ih, Nat.add_mul, Nat.add_comm]
theorem flat_get {α β : Type} (f : α → List β) (m : Nat) (hf : ∀ a, (f a).length = m) : ∀ (l : List α) (i r : Nat), r < m → (l.flatMap f)[i * m + r]? = l[i]?.bind fun a => (f a)[r]?
 | [], i, r, h => by simp
 | a :: l, 0, r, h => by
  simp only [List.flatMap_cons, Nat.zero_mul, Nat.zero_add, List.getElem?_cons_zero, Option.bind_some]
  rw [List.getElem?_append_left (by rw [hf]; exact h)]
 | a :: l, i + 1, r, h => by
  simp only [List.flatMap_cons, List.getElem?_cons_succ]
  rw [List.getElem?_append_right (by rw [hf, Nat.add_mul]; omega), hf, ← flat_get f m hf l i r h]
  congr 1
  rw [Nat.add_mul]
  omega

/-! ### Rules -/
def Rl.cells (r : Rl) : List Value := [.string r.name, .int .i64 r.body]
def rulesCells (rs : List Rl) : List Value := rs.flatMap Rl.cells
theorem rules_some {w : World} {b : Addr} {rs : List Rl} (h : Rules w (some b) rs) : ∀ j u, (rulesCells rs)[j]? = some u → w.cell? (b.add j) = some u := by
 intro j u hu
 have e : j = j / 2 * 2 + j % 2 := by omega
 rw [e, rulesCells, flat_get Rl.cells 2 (fun _ => rfl) rs _ _ (Nat.mod_lt _ (by decide))] at hu
 cases hr : rs[j / 2]? with
 | none => rw [hr] at hu; cases hu
 | some r =>
  rw [hr] at hu
  simp only [Option.bind_some] at hu
  obtain ⟨hj, hzj⟩ := List.getElem?_eq_some_iff.1 hr
  obtain ⟨b', o, h1, h2, h3⟩ := h (j / 2) hj
  simp only [Option.some.injEq] at h1
  subst h1
  rw [hzj] at h2 h3
  rw [Addr.add_lit]
  rcases (show j % 2 = 0 ∨ j % 2 = 1 by omega) with h0 | h0
  ·rw [h0] at hu
   rw [show o + j = o + j / 2 * 2 by omega, h2]
   exact hu
  ·rw [h0] at hu
   rw [show o + j = o + j / 2 * 2 + 1 by omega, h3]
   exact hu
theorem rules_none {w : World} {rs : List Rl} (h : Rules w none rs) : rs = [] := by
 cases rs with
 | nil => rfl
 | cons z zs => obtain ⟨b, o, h1, _⟩ := h 0 (by simp); cases h1
theorem rulesCells_len (rs : List Rl) : (rulesCells rs).length = rs.length * 2 := flat_len Rl.cells 2 (fun _ => rfl) rs
theorem rules_row {w : World} {a : Option Addr} {n c : Nat} {rs : List Rl} (h : w.ownsRow 0 53 2 (.slice a n c) rs.length (rulesCells rs)) : Rules w a rs ∧ n = rs.length ∧ n ≤ c ∧ c ≤ maxLen := by
 rcases h.2 with ⟨h0, h1⟩ | ⟨g, cap, cur, h0, hb, hg, hn, hc, hs, ht⟩
 ·cases h0
  obtain rfl := List.eq_nil_of_length_eq_zero h1
  exact ⟨(fun i hi => by cases hi), rfl, Nat.le_refl _, Nat.zero_le _⟩
 ·cases h0
  have key : ∀ (j : Nat) (u : Value), (rulesCells rs)[j]? = some u → cur[j]? = some u := by
   intro j u hu
   rw [← ht, List.getElem?_take] at hu
   split at hu
   ·simpa using hu
   ·cases hu
  refine ⟨fun i hi => ⟨g, 0, rfl, ?_, ?_⟩, rfl, hn, hc⟩
  ·rw [Nat.zero_add, cell_of_cells hg]
   refine key _ _ ?_
   have := flat_get Rl.cells 2 (fun _ => rfl) rs i 0 (by decide)
   rw [Nat.add_zero] at this
   rw [rulesCells, this]
   simp [Rl.cells, hi]
  ·rw [Nat.zero_add, cell_of_cells hg]
   refine key _ _ ?_
   rw [rulesCells, flat_get Rl.cells 2 (fun _ => rfl) rs i 1 (by decide)]
   simp [Rl.cells, hi]

/-! ### One node -/
theorem nine_set {w : World} {b : Nat} {v0 v1 v2 v3 v4 v5 v6 v7 v8 : Value} {t : TypeId} {m : Nat × Nat} (h : w.heap[b]? = some (.cells #[v0, v1, v2, v3, v4, v5, v6, v7, v8] t m)) (u0 u1 u2 u3 u4 u5 u6 u7 u8 : Value) :
  ∃ w', w' = (((((((((w.setCell ⟨b, 0, none⟩ u0).setCell ⟨b, 1, none⟩ u1).setCell ⟨b, 2, none⟩ u2).setCell ⟨b, 3, none⟩ u3).setCell ⟨b, 4, none⟩ u4).setCell ⟨b, 5, none⟩ u5).setCell ⟨b, 6, none⟩ u6).setCell ⟨b, 7, none⟩ u7).setCell ⟨b, 8, none⟩ u8) ∧ w'.heap[b]? = some (.cells #[u0, u1, u2, u3, u4, u5, u6, u7, u8] t m) ∧ Chg [b] w w' := by
 refine ⟨_, rfl, ?_, ?_⟩
 ·have z1 := heap_setCell_same h 0 u0
  have z2 := heap_setCell_same z1 1 u1
  have z3 := heap_setCell_same z2 2 u2
  have z4 := heap_setCell_same z3 3 u3
  have z5 := heap_setCell_same z4 4 u4
  have z6 := heap_setCell_same z5 5 u5
  have z7 := heap_setCell_same z6 6 u6
  have z8 := heap_setCell_same z7 7 u7
  have z9 := heap_setCell_same z8 8 u8
  rw [z9]
  simp
 ·exact (((((((((Chg.refl [b] w).setCell (p := ⟨b, 0, none⟩) (.inl (by simp)) u0).setCell (p := ⟨b, 1, none⟩) (.inl (by simp)) u1).setCell (p := ⟨b, 2, none⟩) (.inl (by simp)) u2).setCell (p := ⟨b, 3, none⟩) (.inl (by simp)) u3).setCell (p := ⟨b, 4, none⟩) (.inl (by simp)) u4).setCell (p := ⟨b, 5, none⟩) (.inl (by simp)) u5).setCell (p := ⟨b, 6, none⟩) (.inl (by simp)) u6).setCell (p := ⟨b, 7, none⟩) (.inl (by simp)) u7).setCell (p := ⟨b, 8, none⟩) (.inl (by simp)) u8
end Go.Proofs.YtlklmpjakeedcaaGreatDoor
set_option linter.unusedVariables false
set_option linter.unusedSimpArgs false
namespace Go.Proofs.YtlklmpjakeedcaaGreatDoor
open Go.RowKit Go.MapKept Go.Shelf

abbrev Cp := Nd × Option Addr × Nat
def Cp.cells (p : Cp) : List Value := (p.1.cells p.2.1 p.1.kids.length p.2.2).toList
def nodesCells (L : List Cp) : List Value := L.flatMap Cp.cells
theorem cp_len (p : Cp) : p.cells.length = 9 := rfl
theorem row_notrow {w : World} {base e e' size n k : Nat} {v : Value} {xs : List Value} (h : w.ownsRow base e size v n xs) (hv : v.ownBlock = some k) (ht : e ≠ e') : NotRow w e' k := by
 rcases h.2 with ⟨h0, h1⟩ | ⟨g, cap, cur, h0, hb, hg, _⟩
 ·subst h0; cases hv
 ·subst h0
  cases hv
  exact NotRow.of_cells hg ht
theorem nodes_row {w : World} {a : Option Addr} {n c : Nat} {L : List Cp} (h : w.ownsRow 0 65 9 (.slice a n c) L.length (nodesCells L)) (hk : ∀ p ∈ L, OwnInts w (.slice p.2.1 p.1.kids.length p.2.2) p.1.kids) :
  Nodes w a (L.map (·.1)) ∧ n = L.length ∧ n ≤ c ∧ c ≤ maxLen := by
 rcases h.2 with ⟨h0, h1⟩ | ⟨g, cap, cur, h0, hb, hg, hn, hc, hs, ht⟩
 ·cases h0
  obtain rfl := List.eq_nil_of_length_eq_zero h1
  exact ⟨(fun i hi => by cases hi), rfl, Nat.le_refl _, Nat.zero_le _⟩
 ·cases h0
  have key : ∀ (j : Nat) (u : Value), (nodesCells L)[j]? = some u → cur[j]? = some u := by
   intro j u hu
   rw [← ht, List.getElem?_take] at hu
   split at hu
   ·simpa using hu
   ·cases hu
  refine ⟨fun i hi => ?_, rfl, hn, hc⟩
  have hi' : i < L.length := by simpa using hi
  obtain ⟨k1, k2, k3, k4⟩ := ownInts_read (hk _ (List.getElem_mem hi'))
  have cell : ∀ r, r < 9 → w.cell? ⟨g, i * 9 + r, none⟩ = (L[i]'hi').cells[r]? := by
   intro r hr
   have h1 := flat_get Cp.cells 9 cp_len L i r hr
   rw [List.getElem?_eq_getElem hi', Option.bind_some] at h1
   have h2 : (L[i]'hi').cells[r]? = some ((L[i]'hi').cells[r]'(by rw [cp_len]; exact hr)) := List.getElem?_eq_getElem _
   rw [cell_of_cells hg, h2]
   exact key _ _ (h1.trans h2)
  refine ⟨g, 0, (L[i]'hi').2.1, (L[i]'hi').1.kids.length, (L[i]'hi').2.2, rfl, ?_⟩
  simp only [List.getElem_map, Nat.zero_add]
  exact ⟨cell 0 (by decide), cell 1 (by decide), cell 2 (by decide), cell 3 (by decide), cell 4 (by decide), cell 5 (by decide), cell 6 (by decide), cell 7 (by decide), cell 8 (by decide), rfl, k3, k4, k1⟩

end Go.Proofs.YtlklmpjakeedcaaGreatDoor
set_option linter.unusedVariables false
set_option linter.unusedSimpArgs false
namespace Go.Proofs.YtlklmpjakeedcaaGreatDoor
open Go.RowKit Go.MapKept Go.Shelf

/-- A block of two slices. -/
def TwoS (w : World) (T : Nat) (ty : TypeId) : Prop := ∃ a1 n1 c1 a2 n2 c2, w.heap[T]? = some (.cells #[.slice a1 n1 c1, .slice a2 n2 c2] ty (0, 0))
theorem two_ne {w : World} {T : Nat} {ty : TypeId} (hT : TwoS w T ty) {p : Addr} {v : Value} (h : w.cell? p = some v) (hv : ∀ a n c, v ≠ .slice a n c) : p.block ≠ T := by
 intro he
 obtain ⟨a1, n1, c1, a2, n2, c2, hT⟩ := hT
 obtain ⟨b, o, s⟩ := p
 simp only at he
 subst he
 have hs : s = none := by
  cases s with
  | none => rfl
  | some _ => simp [World.cell?, hT] at h
 subst hs
 rw [cell_of_cells hT] at h
 rcases o with _ | _ | o
 ·simp at h; exact hv _ _ _ h.symm
 ·simp at h; exact hv _ _ _ h.symm
 ·simp at h
theorem Ints.two {w w' : World} {T : Nat} {ty : TypeId} {a : Option Addr} {zs : List Int} (h : Ints w a zs) (hT : TwoS w T ty) (hc : Chg [T] w w') : Ints w' a zs := fun i hi => by
 obtain ⟨b, o, h1, h2⟩ := h i hi
 have := two_ne hT h2 (by intro a n c e; cases e)
 exact ⟨b, o, h1, hc.cell h2 (by simpa using this)⟩
theorem Rules.two {w w' : World} {T : Nat} {ty : TypeId} {a : Option Addr} {rs : List Rl} (h : Rules w a rs) (hT : TwoS w T ty) (hc : Chg [T] w w') : Rules w' a rs := fun i hi => by
 obtain ⟨b, o, h1, h2, h3⟩ := h i hi
 have := two_ne hT h2 (by intro a n c e; cases e)
 exact ⟨b, o, h1, hc.cell h2 (by simpa using this), hc.cell h3 (by simpa using this)⟩
theorem Nodes.two {w w' : World} {T : Nat} {ty : TypeId} {a : Option Addr} {ns : List Nd} (h : Nodes w a ns) (hT : TwoS w T ty) (hc : Chg [T] w w') : Nodes w' a ns := fun i hi => by
 obtain ⟨b, o, ak, nk, ck, h1, h2⟩ := h i hi
 have hb := two_ne hT h2.k (by intro a n c e; cases e)
 have key : ∀ {q : Nat} {v : Value}, w.cell? ⟨b, q, none⟩ = some v → w'.cell? ⟨b, q, none⟩ = some v := fun h => hc.cell h (by simpa using hb)
 exact ⟨b, o, ak, nk, ck, h1, ⟨key h2.k, key h2.c0, key h2.c1, key h2.c2, key h2.c3, key h2.s, key h2.r, key h2.l, key h2.kids, h2.len, h2.le, h2.cap, h2.ints.two hT hc⟩⟩

def NewGram (w : World) (g : Gr) (e : Ending) (w' : World) : Prop :=
 ∃ b1 d1 b2 d2, e = .returned (.agg #[.slice b1 g.rules.length d1, .slice b2 g.nodes.length d2]) ∧ GramAt w' b1 g.rules.length d1 b2 g.nodes.length d2 g ∧ Chg [] w w'

end Go.Proofs.YtlklmpjakeedcaaGreatDoor
set_option linter.unusedVariables false
set_option linter.unusedSimpArgs false
namespace Go.Proofs.YtlklmpjakeedcaaGreatDoor
open Go.RowKit Go.MapKept Go.Shelf

/-- A row of one's own, beyond B, that holds numbers. -/
def FreshInts (B : Nat) (w : World) (a : Option Addr) (c : Nat) (zs : List Int) : Prop := w.ownsRow B 3 1 (.slice a zs.length c) zs.length (zs.map (Value.int .i64))
def FreshRules (B : Nat) (w : World) (a : Option Addr) (c : Nat) (rs : List Rl) : Prop := w.ownsRow B 53 2 (.slice a rs.length c) rs.length (rulesCells rs)
theorem row_base {W : World} {base base' : Nat} {e : TypeId} {size : Nat} {v : Value} {k : Nat} {xs : List Value} (h : W.ownsRow base e size v k xs) (hb : base' ≤ base) : W.ownsRow base' e size v k xs := by
 refine ⟨h.1, ?_⟩
 rcases h.2 with hn | ⟨g, cap, cur, hv, hbg, rest⟩
 ·exact .inl hn
 ·exact .inr ⟨g, cap, cur, hv, Nat.le_trans hb hbg, rest⟩
theorem FreshInts.own {B : Nat} {w : World} {a : Option Addr} {c : Nat} {zs : List Int} (h : FreshInts B w a c zs) : OwnInts w (.slice a zs.length c) zs := row_base h (Nat.zero_le _)
theorem row_beyond {W : World} {B : Nat} {e : TypeId} {size : Nat} {v : Value} {k : Nat} {xs : List Value} (h : W.ownsRow B e size v k xs) {j : Nat} (hj : v.ownBlock = some j) : B ≤ j ∧ j < W.heap.size ∧ ∃ cur, W.heap[j]? = some (.cells cur e (0, 0)) := by
 rcases h.2 with ⟨h0, h1⟩ | ⟨g, cap, cur, h0, hb, hg, _⟩
 ·subst h0; cases hj
 ·subst h0; cases hj; exact ⟨hb, (Array.getElem?_eq_some_iff.1 hg).1, cur, hg⟩
def ClonedInts (w : World) (zs : List Int) (e : Ending) (w' : World) : Prop := ∃ a c, e = .returned (.slice a zs.length c) ∧ FreshInts w.heap.size w' a c zs ∧ Chg [] w w'
end Go.Proofs.YtlklmpjakeedcaaGreatDoor
set_option linter.unusedVariables false
set_option linter.unusedSimpArgs false
namespace Go.Proofs.YtlklmpjakeedcaaGreatDoor
open Go.RowKit Go.MapKept Go.Shelf
attribute [local go_sem] Oper.semAt_some

def Cp.own (p : Cp) : Option Nat := (Value.slice p.2.1 p.1.kids.length p.2.2).ownBlock
end Go.Proofs.YtlklmpjakeedcaaGreatDoor
set_option linter.unusedVariables false
set_option linter.unusedSimpArgs false
namespace Go.Proofs.YtlklmpjakeedcaaGreatDoor
open Go.RowKit Go.MapKept Go.Shelf

/-- Rules, nodes and each node's kids in rows of their own, all beyond B. -/
structure OwnG (B : Nat) (w : World) (b1 : Option Addr) (d1 : Nat) (b2 : Option Addr) (d2 : Nat) (L : List Cp) (rs : List Rl) : Prop where
 rules : FreshRules B w b1 d1 rs
 nodes : w.ownsRow B 65 9 (.slice b2 L.length d2) L.length (nodesCells L)
 kids : ∀ p ∈ L, FreshInts B w p.2.1 p.2.2 p.1.kids
 apart : L.Pairwise fun q p => ∀ i j, q.own = some i → p.own = some j → i < j
/-- What is no row of it is changed. -/
theorem OwnG.chg {B : Nat} {w w' : World} {S : List Nat} {b1 : Option Addr} {d1 : Nat} {b2 : Option Addr} {d2 : Nat} {L : List Cp} {rs : List Rl} (h : OwnG B w b1 d1 b2 d2 L rs) (hc : Chg S w w')
  (hS : ∀ k ∈ S, NotRow w 53 k ∧ NotRow w 65 k ∧ NotRow w 3 k) : OwnG B w' b1 d1 b2 d2 L rs :=
 ⟨hc.rowOf h.rules (fun k hk => (hS k hk).1), hc.rowOf h.nodes (fun k hk => (hS k hk).2.1), fun p hp => hc.rowOf (h.kids p hp) (fun k hk => (hS k hk).2.2), h.apart⟩
theorem OwnG.chg0 {B : Nat} {w w' : World} {b1 : Option Addr} {d1 : Nat} {b2 : Option Addr} {d2 : Nat} {L : List Cp} {rs : List Rl} (h : OwnG B w b1 d1 b2 d2 L rs) (hc : Chg [] w w') : OwnG B w' b1 d1 b2 d2 L rs := h.chg hc (by simp)
/-- The node's row, behind a node more. -/
theorem OwnG.snoc {B : Nat} {w w1 : World} {b1 : Option Addr} {d1 : Nat} {b2 b2' : Option Addr} {d2 d2' : Nat} {L : List Cp} {rs : List Rl} {p : Cp} (h : OwnG B w b1 d1 b2 d2 L rs) (hp : FreshInts B w p.2.1 p.2.2 p.1.kids) (ha : ∀ q ∈ L, ∀ i j, q.own = some i → p.own = some j → i < j)
  (hr : w1.ownsRow B 65 9 (.slice b2' (L.length + 1) d2') (L.length + 1) (nodesCells L ++ p.cells)) (hg : w.grownBy w1 (Value.slice b2 L.length d2).ownBlock) : OwnG B w1 b1 d1 b2' d2' (L ++ [p]) rs := by
 have hc : Chg (Value.slice b2 L.length d2).ownBlock.toList w w1 := (Chg.refl _ w).grown hg (fun k hk => .inl (by rw [hk]; simp))
 have hS : ∀ e, 65 ≠ e → ∀ k ∈ (Value.slice b2 L.length d2).ownBlock.toList, NotRow w e k := by
  intro e he k hk
  simp only [Option.mem_toList] at hk
  exact row_notrow h.nodes hk he
 refine ⟨hc.rowOf h.rules (hS _ (by decide)), ?_, ?_, ?_⟩
 ·have : nodesCells (L ++ [p]) = nodesCells L ++ p.cells := by rw [nodesCells, nodesCells, List.flatMap_append, List.flatMap_singleton]
  rw [this, List.length_append]; exact hr
 ·intro q hq
  rcases List.mem_append.1 hq with hq | hq
  ·exact hc.rowOf (h.kids q hq) (hS _ (by decide))
  ·simp only [List.mem_singleton] at hq
   subst hq
   exact hc.rowOf hp (hS _ (by decide))
 ·rw [List.pairwise_append]
  exact ⟨h.apart, List.pairwise_singleton _ _, fun q hq r hr => by simp only [List.mem_singleton] at hr; subst hr; exact ha q hq⟩
theorem keepsFrom_of_chg {B : Nat} {S : List Nat} {A A' : World} (h : Chg S A A') (hS : ∀ k ∈ S, k < B ∨ ∃ cur t m, A.heap[k]? = some (.cells cur t m)) : KeepsFrom B A A' :=
 ⟨h.size, fun k o hB hk ho => h.heap hk (fun hm => by
  rcases hS k hm with h1 | ⟨cur, t, m, h1⟩
  ·omega
  ·rw [hk] at h1; cases h1; cases ho)⟩
end Go.Proofs.YtlklmpjakeedcaaGreatDoor
set_option linter.unusedVariables false
set_option linter.unusedSimpArgs false
namespace Go.Proofs.YtlklmpjakeedcaaGreatDoor
open Go.RowKit Go.MapKept Go.Shelf

set_option maxRecDepth 100000 in
set_option maxHeartbeats 1000000 in
theorem CopyIntsF_any (w : World) (a : Option Addr) (n c : Nat) (zs : List Int) (hn : n = zs.length) (hs : n ≤ 17592186044416) (hz : Ints w a zs) :
  Calls Tryz.prog 140 #[.slice a n c] w (ClonedInts w zs) := by
 obtain ⟨i0, hi, hz0, hz1, hz2⟩ := info_parts Tryz.infoInt
 cases a with
 | none =>
  obtain rfl := ints_none hz
  obtain rfl : n = 0 := by simpa using hn
  clear hz hn
  have hnil : w.ownsRow w.heap.size 3 1 (.slice none 0 0) 0 [] := World.ownsRow_nil _ _ _ _
  have HN := Lib.hid hnil
  clear hnil
  go_enter Tryz.func140, Tryz.ntmps140
  go_wp2_with (at_builtin; refine wpList_append_nil rfl _ _ 34 rfl w.heap.size 3 i0 1 c Tryz.underlying34 hi (.slice none 0 0) 0 [] rfl HN.out rfl ?_)
  go_ret
  exact ⟨none, 0, rfl, HN.out, Chg.refl _ _⟩
 | some b =>
  have hl : (zs.map (Value.int .i64)).length = n * 1 := by simp [hn]
  have h1 : ∀ u ∈ zs.map (Value.int .i64), u.oneCell' = true := by
   intro u hu
   obtain ⟨z, _, rfl⟩ := List.mem_map.1 hu
   rfl
  have h2 : 0 + n ≤ maxLen ∧ (0 + n) * 8 ≤ 140737488355328 := by simp only [maxLen]; omega
  have HN := Lib.hid (And.intro hl (And.intro (ints_some hz) (And.intro h1 (And.intro h2 hn))))
  clear hl h1 h2 hz hn
  go_enter Tryz.func140, Tryz.ntmps140
  go_wp2_with (at_builtin; refine wpList_append_own_at _ rfl _ _ 34 rfl w.heap.size 3 i0 _ 1 8 Tryz.underlying34 hi hz0 hz1 hz2 rfl (by decide) (.slice none 0 0) 0 [] rfl (World.ownsRow_nil _ _ _ _) b n c (zs.map (Value.int .i64)) rfl HN.out.1 HN.out.2.1 HN.out.2.2.1 HN.out.2.2.2.1.1 HN.out.2.2.2.1.2 (Nat.le_refl _) ?_; intro v' w1 hown hgrow hnil hblk; obtain ⟨a', c', rfl⟩ := ownsRow_slice hown; have HW := Lib.hid (And.intro hown hgrow); clear hown hgrow hnil hblk)
  go_ret
  obtain ⟨hl, h3, h1, h2, hn⟩ := HN.out
  obtain ⟨hr, hg⟩ := HW.out
  subst hn
  simp only [Nat.zero_add] at hr ⊢
  exact ⟨a', c', rfl, by simpa [FreshInts] using hr, (Chg.refl _ _).grown hg (fun k hk => by cases hk)⟩

def NewNodeF (w : World) (x : Nd) (e : Ending) (w' : World) : Prop :=
 ∃ a c, e = .returned (.agg (x.cells a x.kids.length c)) ∧ FreshInts w.heap.size w' a c x.kids ∧ Chg [] w w'

set_option maxRecDepth 100000 in
set_option maxHeartbeats 1000000 in
theorem CopyNodeF_any (w : World) (x : Nd) (a : Option Addr) (n c : Nat) (hn : n = x.kids.length) (hs : n ≤ 17592186044416) (hz : Ints w a x.kids) :
  Calls Tryz.prog 92 #[.agg (x.cells a n c)] w (NewNodeF w x) := by
 have HN := Lib.hid (And.intro hn (And.intro hs hz))
 clear hn hs hz
 unfold Nd.cells
 go_enter Tryz.func92, Tryz.ntmps92
 go_wp2_with fail
 refine (CopyIntsF_any _ _ _ _ _ HN.out.1 HN.out.2.1 (HN.out.2.2.keep (((Chg.refl [] w).alloc _).alloc _).kp)).mono ?_
 rintro e w3 ⟨a', c', rfl, h1, h2⟩
 have hb0 := h2.heap (heap_alloc_lt (heap_alloc_same _ _) _) (by simp)
 have hb1 := h2.heap (heap_alloc_same _ _) (by simp)
 have hc := (((Chg.refl [] w).alloc _).alloc _).tr0 h2
 have hl := h2.size
 simp only [World.size_alloc] at hb1 hl h1
 have h1 := row_base h1 (show w.heap.size ≤ w.heap.size + 1 + 1 by omega)
 have H := Lib.hid (And.intro h1 (And.intro hc (And.intro hb0 hb1)))
 clear h1 h2 hc hb0 hb1
 obtain ⟨x0, x1, x2, x3, x4, x5, x6, x7, x8⟩ := cells9 H.out.2.2.1
 have f8 := free_of_cells H.out.2.2.1 8
 obtain ⟨y0, y1, y2, y3, y4, y5, y6, y7, y8⟩ := cells9 H.out.2.2.2
 have g0 := free_of_cells H.out.2.2.2 0
 have g1 := free_of_cells H.out.2.2.2 1
 have g2 := free_of_cells H.out.2.2.2 2
 have g3 := free_of_cells H.out.2.2.2 3
 have g4 := free_of_cells H.out.2.2.2 4
 have g5 := free_of_cells H.out.2.2.2 5
 have g6 := free_of_cells H.out.2.2.2 6
 have g7 := free_of_cells H.out.2.2.2 7
 have g8 := free_of_cells H.out.2.2.2 8
 go_wp2_with fail
 have z0 := heap_set_ne (c := w.heap.size) (i := 8) (u := .slice a' x.kids.length c') H.out.2.2.2 (by omega)
 obtain ⟨w4, e4, z, hch⟩ := nine_set z0 (.int .i64 x.k) (.int .u64 x.c0) (.int .u64 x.c1) (.int .u64 x.c2) (.int .u64 x.c3) (.string x.s) (.int .i64 x.r) (.int .i64 x.l) (.slice a' x.kids.length c')
 rw [← e4]
 clear e4 z0 x0 x1 x2 x3 x4 x5 x6 x7 x8 y0 y1 y2 y3 y4 y5 y6 y7 y8 f8 g0 g1 g2 g3 g4 g5 g6 g7 g8
 have hch := ((Chg.refl [w.heap.size, w.heap.size + 1] w3).setCell (p := ⟨w.heap.size, 8, none⟩) (.inl (by simp)) (.slice a' x.kids.length c')).trans hch (fun j hj => .inl (by simp at hj; simp [hj]))
 obtain ⟨q0, q1, q2, q3, q4, q5, q6, q7, q8⟩ := cells9 z
 have hTl := lt_of_block z
 refine bodyPost_ret (v := .agg #[.int .i64 x.k, .int .u64 x.c0, .int .u64 x.c1, .int .u64 x.c2, .int .u64 x.c3, .string x.s, .int .i64 x.r, .int .i64 x.l, .slice a' x.kids.length c']) (by simp [results, Tryz.results92, go_sem, q0, q1, q2, q3, q4, q5, q6, q7, q8, hTl]) rfl ?_
 refine ⟨a', c', rfl, hch.rowOf H.out.1 ?_, H.out.2.1.trans hch ?_⟩
 ·intro k hk
  simp only [List.mem_cons, List.not_mem_nil, or_false] at hk
  rcases hk with rfl | rfl
  ·exact NotRow.of_cells H.out.2.2.1 (by decide)
  ·exact NotRow.of_cells H.out.2.2.2 (by decide)
 ·intro k hk
  simp only [List.mem_cons, List.not_mem_nil, or_false] at hk
  rcases hk with rfl | rfl <;> right <;> omega

/-- Nodes in rows of their own. -/
def NewBody (w : World) (ns : List Nd) (e : Ending) (w' : World) : Prop :=
 ∃ a c L, e = .returned (.slice a ns.length c) ∧ L.map (·.1) = ns ∧ OwnG w.heap.size w' none 0 a c L [] ∧ Chg [] w w'

set_option maxRecDepth 100000 in
set_option maxHeartbeats 2000000 in
theorem CopyNodesF_any (w : World) (a : Option Addr) (n c : Nat) (ns : List Nd) (hn : n = ns.length) (hs : n ≤ 3000) (hr : Nodes w a ns) (hk : ∀ x ∈ ns, x.kids.length ≤ 3000) :
  Calls Tryz.prog 59 #[.slice a n c] w (NewBody w ns) := by
 obtain ⟨i0, hi, hz0, hz1, hz2⟩ := info_parts Tryz.infoNode
 have H := Lib.hid (And.intro hn (And.intro hr hk))
 clear hn hr hk
 go_enter Tryz.func59, Tryz.ntmps59
 go_wp2_with fail
 go_loopg [4, 3] n (fun d iv ov wr => ∃ (k c' : Nat) (a' : Option Addr) (L : List Cp), d = n - k ∧ k ≤ n ∧ iv = .int .i64 k ∧ ov = .slice a' k c' ∧ Hid (L.length = k ∧ L.map (·.1) = ns.take k ∧ OwnG w.heap.size wr none 0 a' c' L [] ∧ Chg [] w wr))
 case atStart => exact ⟨0, 0, none, [], rfl, Nat.zero_le _, rfl, rfl, Lib.hid ⟨rfl, rfl, ⟨World.ownsRow_nil _ _ _ _, World.ownsRow_nil _ _ _ _, by simp, List.Pairwise.nil⟩, Chg.refl _ _⟩⟩
 case round =>
  obtain ⟨k, c', a', L, rfl, hk, rfl, rfl, hcp⟩ := hrel
  obtain ⟨wq, rfl⟩ : ∃ wq, wq = wr := ⟨_, rfl⟩
  by_cases hlt : k < n
  ·have hk' : k < ns.length := by have := H.out.1; omega
   obtain ⟨b, o, ak, nk, ck, rfl, hx⟩ := H.out.2.1.keep hcp.out.2.2.2.kp k hk'
   have hkl := H.out.2.2 _ (List.getElem_mem hk')
   obtain ⟨x, hxe⟩ : ∃ x, x = ns[k] := ⟨_, rfl⟩
   rw [← hxe] at hx hkl
   have hbk := World.block_lt_of_cell? _ _ hx.k
   simp only at hbk
   obtain ⟨h0, h1, h2, h3, h4, h5, h6, h7, h8, q1, q2, q3, q4⟩ := hx
   have hcall := CopyNodeF_any wq x ak nk ck q1 (by omega) q4
   unfold Nd.cells at hcall
   have HR := Lib.hid (And.intro hxe (And.intro hcall hkl))
   clear q1 q2 q3 q4 hcall hkl hxe
   go_wp2_with fail
   refine HR.out.2.1.mono ?_
   rintro e w4 ⟨a4, c4, rfl, ho, hc4⟩
   have hc5 := (hc4.alloc (.cells #[.int .i64 x.k, .int .u64 x.c0, .int .u64 x.c1, .int .u64 x.c2, .int .u64 x.c3, .string x.s, .int .i64 x.r, .int .i64 x.l, .slice a4 x.kids.length c4] 65)).alloc (.cells #[.int .i64 x.k, .int .u64 x.c0, .int .u64 x.c1, .int .u64 x.c2, .int .u64 x.c3, .string x.s, .int .i64 x.r, .int .i64 x.l, .slice a4 x.kids.length c4] 65)
   have ho5 : FreshInts wq.heap.size ((w4.alloc (.cells #[.int .i64 x.k, .int .u64 x.c0, .int .u64 x.c1, .int .u64 x.c2, .int .u64 x.c3, .string x.s, .int .i64 x.r, .int .i64 x.l, .slice a4 x.kids.length c4] 65)).alloc (.cells #[.int .i64 x.k, .int .u64 x.c0, .int .u64 x.c1, .int .u64 x.c2, .int .u64 x.c3, .string x.s, .int .i64 x.r, .int .i64 x.l, .slice a4 x.kids.length c4] 65)) a4 c4 x.kids := (World.ownsRow.alloc (World.ownsRow.alloc ho _) _)
   have hown5 := hcp.out.2.2.1.chg0 hc5
   have h1' : ∀ u ∈ (#[.int .i64 x.k, .int .u64 x.c0, .int .u64 x.c1, .int .u64 x.c2, .int .u64 x.c3, .string x.s, .int .i64 x.r, .int .i64 x.l, .slice a4 x.kids.length c4] : Array Value).toList, u.oneCell' = true := by simp [Value.oneCell']
   have h2' : k + 1 ≤ maxLen ∧ (k + 1) * 96 ≤ 140737488355328 := by simp only [maxLen]; omega
   have hnew := cells_at (w := (w4.alloc (.cells #[.int .i64 x.k, .int .u64 x.c0, .int .u64 x.c1, .int .u64 x.c2, .int .u64 x.c3, .string x.s, .int .i64 x.r, .int .i64 x.l, .slice a4 x.kids.length c4] 65)).alloc (.cells #[.int .i64 x.k, .int .u64 x.c0, .int .u64 x.c1, .int .u64 x.c2, .int .u64 x.c3, .string x.s, .int .i64 x.r, .int .i64 x.l, .slice a4 x.kids.length c4] 65)) (heap_alloc_same _ _)
   rw [World.size_alloc] at hnew
   have hnodes5 := hown5.nodes
   rw [hcp.out.1] at hnodes5
   have hcw := hcp.out.2.2.2.tr0 hc5
   have hsz := hcw.size
   have H4 := Lib.hid (And.intro ho5 (And.intro hc5 (And.intro hnodes5 (And.intro h1' (And.intro h2' (And.intro hnew (And.intro hcw (And.intro hsz hown5))))))))
   clear ho hc4 h1' h2' hnew ho5 hc5 hnodes5 hown5 hcw hsz
   unfold Nd.cells
   go_wp2_with (at_builtin; refine wpList_append_own_at _ rfl _ _ 29 rfl w.heap.size 65 i0 _ 9 96 Tryz.underlying29 hi hz0 hz1 hz2 rfl (by decide) (.slice a' k c') k (nodesCells L) rfl H4.out.2.2.1 ⟨w4.heap.size + 1, 0, none⟩ 1 1 (#[.int .i64 x.k, .int .u64 x.c0, .int .u64 x.c1, .int .u64 x.c2, .int .u64 x.c3, .string x.s, .int .i64 x.r, .int .i64 x.l, .slice a4 x.kids.length c4] : Array Value).toList rfl rfl H4.out.2.2.2.2.2.1 H4.out.2.2.2.1 H4.out.2.2.2.2.1.1 H4.out.2.2.2.2.1.2 H4.out.2.2.2.2.2.2.2.1 ?_; intro v' w6 hr1 hg1 hk1 hb1; obtain ⟨a6, c6, rfl⟩ := ownsRow_slice hr1; have HW := Lib.hid (And.intro hr1 (And.intro hg1 hk1)); clear hr1 hg1 hk1 hb1)
   go_roundg (n - (k + 1))
   case measure => omega
   case rel =>
    refine ⟨k + 1, c6, a6, L ++ [(x, a4, c4)], rfl, by omega, by go_num, rfl, Lib.hid ⟨by simp [hcp.out.1], ?_, ?_, ?_⟩⟩
    ·rw [List.take_succ_eq_append_getElem hk', ← HR.out.1]; simp [hcp.out.2.1]
    ·refine H4.out.2.2.2.2.2.2.2.2.snoc (p := (x, a4, c4)) (row_base H4.out.1 (by have := hcp.out.2.2.2.size; omega)) ?_ ?_ ?_
     ·intro q hq i j hi hj
      have h1 := (row_beyond (hcp.out.2.2.1.kids q hq) hi).2.1
      have h2 := (row_beyond H4.out.1 hj).1
      omega
     ·have := HW.out.1
      rw [hcp.out.1]
      exact this
     ·have := HW.out.2.1
      rw [hcp.out.1]
      exact this
    ·have hrow := hcp.out.2.2.1.nodes
     refine H4.out.2.2.2.2.2.2.1.grown HW.out.2.1 (fun j hj => .inr ?_)
     rw [← hcp.out.1] at hj
     exact (row_beyond hrow hj).1
  ·obtain rfl : k = n := by omega
   go_wp2
   go_ret
   obtain rfl := H.out.1
   have h1 := hcp.out.2.1
   rw [List.take_length] at h1
   exact ⟨a', c', L, rfl, h1, hcp.out.2.2.1, hcp.out.2.2.2⟩
end Go.Proofs.YtlklmpjakeedcaaGreatDoor
