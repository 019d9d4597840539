/-
  Names: the program's test and the document's.
  Conditions: none.
-/
import Derived.Test.YtplpboknmhgpiaaCEdPkN
import Derived.Lib.Strings
import Derived.Deep.DrawnRows
import Derived.Shelf.GgClosure.StringsIndexFunc
import Derived.Ground.GgwProg
import Derived.Shelf.GgClosure.StringsIndexFuncTop
import Derived.Test.YtplpboknmhgpiaaProg
import Derived.Shelf.Abstract
import Derived.Maps.Own
import Derived.Test.YtplpboknmhgpiaaCEdNu0
set_option linter.unusedVariables false
set_option linter.unusedSimpArgs false
namespace Go.Proofs.Ytplpboknmhgpiaa
open Go.RowKit Go.MapKept Go.Proofs Go.Lib

def letR (r : Int) : Bool := (decide (97 ≤ r) && decide (r ≤ 122)) || (decide (65 ≤ r) && decide (r ≤ 90)) || decide (r = 95)

def oddN (r : Nat) : Bool := !letR r && (decide (r < 48) || decide (57 < r))
/-! ### The plain law -/
theorem decode_lt {s : ByteArray} {p : Nat} (h : (s.get! p).toNat < 128) : Utf8.decode s p = ((s.get! p).toNat, 1) := by
  unfold Utf8.decode
  simp [h]
theorem decode_ge {s : ByteArray} {p : Nat} (h : ¬ (s.get! p).toNat < 128) : 128 ≤ (Utf8.decode s p).1 := by
  unfold Utf8.decode
  simp only [Nat.add_zero, h, if_false, Utf8.runeError]
  split
  · split <;> simp_all
  · split
    · split
      · rename_i h1; simp only [Bool.and_eq_true, decide_eq_true_eq, ge_iff_le] at h1; simp; omega
      · simp
    · split
      · split
        · rename_i h1; simp only [Bool.and_eq_true, decide_eq_true_eq, ge_iff_le] at h1; simp; omega
        · simp
      · simp
def okR (r : Nat) : Bool := letR r || (decide (48 ≤ r) && decide (r ≤ 57))
theorem okR_odd (r : Nat) : oddN r = !okR r := by
  unfold oddN okR
  cases letR r
  · by_cases h1 : 48 ≤ r <;> by_cases h2 : r ≤ 57 <;> simp [h1, h2] <;> omega
  · simp
theorem okR_big {r : Nat} (h : 128 ≤ r) : okR r = false := by
  unfold okR letR
  simp only [Bool.or_eq_false_iff, Bool.and_eq_false_iff, decide_eq_false_iff_not]
  omega
theorem idx_neg {s : ByteArray} : ∀ (f p : Nat), s.size - p ≤ f → (idxFuncFrom oddN true s f p < 0 ↔ ∀ j, p ≤ j → j < s.size → okR (s.get! j).toNat = true) := by
  intro f
  induction f with
  | zero => intro p h; simp only [idxFuncFrom]; exact ⟨fun _ j h1 h2 => by omega, fun _ => by omega⟩
  | succ f ih =>
    intro p h
    simp only [idxFuncFrom]
    by_cases hp : p < s.size
    · rw [if_pos hp]
      by_cases hb : (s.get! p).toNat < 128
      · rw [decode_lt hb, okR_odd]
        cases ho : okR (s.get! p).toNat
        · simp only [Bool.not_false, if_true]
          refine ⟨fun h => by omega, fun h => ?_⟩
          have := h p (Nat.le_refl _) hp
          rw [ho] at this
          cases this
        · simp only [Bool.not_true, Bool.false_eq_true, if_false]
          rw [ih (p + 1) (by omega)]
          refine ⟨fun h j h1 h2 => ?_, fun h j h1 h2 => h j (by omega) h2⟩
          by_cases e : j = p
          · subst e; exact ho
          · exact h j (by omega) h2
      · have hd := decode_ge hb
        rw [okR_odd, okR_big hd]
        simp only [Bool.not_false, if_true]
        refine ⟨fun h => by omega, fun h => ?_⟩
        have := h p (Nat.le_refl _) hp
        rw [okR_big (by omega)] at this
        cases this
    · rw [if_neg hp]
      exact ⟨fun _ j h1 h2 => by omega, fun _ => by omega⟩
theorem letterB_R (c : UInt8) : letterB c = letR (c.toNat : Int) := by
  unfold letterB letR
  rw [Bool.eq_iff_iff]
  simp only [Bool.or_eq_true, Bool.and_eq_true, decide_eq_true_eq, UInt8.le_iff_toNat_le, beq_iff_eq, ← UInt8.toNat_inj]
  have e1 : (97 : UInt8).toNat = 97 := rfl
  have e2 : (122 : UInt8).toNat = 122 := rfl
  have e3 : (65 : UInt8).toNat = 65 := rfl
  have e4 : (90 : UInt8).toNat = 90 := rfl
  have e5 : (95 : UInt8).toNat = 95 := rfl
  rw [e1, e2, e3, e4, e5]
  omega
theorem digitB_R (c : UInt8) : digitB c = (decide (48 ≤ c.toNat) && decide (c.toNat ≤ 57)) := by
  unfold digitB
  rw [Bool.eq_iff_iff]
  simp only [Bool.and_eq_true, decide_eq_true_eq, UInt8.le_iff_toNat_le]
  exact Iff.rfl
theorem okR_B (c : UInt8) : okR c.toNat = (letterB c || digitB c) := by rw [letterB_R, digitB_R]; rfl
theorem get_at (s : ByteArray) (j : Nat) (h : j < s.size) : s.get! j = s[j] := by
  show s.data[j]! = _
  rw [getElem!_pos s.data j h]
  rfl
/-- A name, by what the program asks. -/
theorem nameB_eq {s : ByteArray} (h0 : 0 < s.size) : nameB s = (decide (s.size ≤ 32) && decide (Lib.idxFunc oddN true s < 0) && letR (s[0].toNat : Int)) := by
  have hi : (Lib.idxFunc oddN true s < 0) ↔ ∀ j, 0 ≤ j → j < s.size → okR (s.get! j).toNat = true := idx_neg s.size 0 (by omega)
  unfold nameB
  have hl : s.data.toList.length = s.size := by first | (simp; done) | (simp; rfl)
  cases hd : s.data.toList with
  | nil => rw [hd] at hl; simp at hl; omega
  | cons c r =>
    have hg : ∀ j (hj : j < s.size), s[j] = (c :: r)[j]'(by rw [← hd, hl]; exact hj) := by
      intro j hj
      have : s[j] = s.data[j] := rfl
      rw [this, ← Array.getElem_toList]
      simp only [hd]
    have h1 : s[0] = c := hg 0 h0
    rw [hd] at hl
    simp only [List.length_cons] at hl
    simp only [nameL]
    rw [Bool.eq_iff_iff]
    simp only [Bool.and_eq_true, decide_eq_true_eq, List.all_eq_true]
    rw [hi, h1, ← letterB_R]
    constructor
    · rintro ⟨⟨h2, h3⟩, h4⟩
      refine ⟨⟨by omega, fun j _ hj => ?_⟩, h2⟩
      rw [get_at s j hj, hg j hj, okR_B]
      cases j with
      | zero => simp [h2]
      | succ j => exact h3 _ (List.getElem_mem _)
    · rintro ⟨⟨h2, h3⟩, h4⟩
      refine ⟨⟨h4, fun x hx => ?_⟩, by omega⟩
      obtain ⟨j, hj, rfl⟩ := List.mem_iff_getElem.1 hx
      have := h3 (j + 1) (by omega) (by omega)
      rw [get_at s _ (by omega), hg _ (by omega), okR_B] at this
      simpa using this

theorem name_empty {s : ByteArray} (h : s.size = 0) : nameB s = false := by
  unfold nameB
  have : s.data.toList = [] := List.eq_nil_of_length_eq_zero (by simpa using h)
  rw [this]
  rfl
end Go.Proofs.Ytplpboknmhgpiaa
set_option linter.unusedVariables false
set_option linter.unusedSimpArgs false
namespace Go.Proofs.Ytplpboknmhgpiaa
open Go.RowKit Go.MapKept Go.Proofs Go.Lib
attribute [local go_sem ↓] Go.wp_at_zero Go.wp_at_succ

end Go.Proofs.Ytplpboknmhgpiaa
set_option linter.unusedVariables false
set_option linter.unusedSimpArgs false
namespace Go.Proofs.Ytplpboknmhgpiaa
open Go.RowKit Go.MapKept

/-- Zeros ahead, then what has been told. -/
def zerosThen (n : Nat) (l : List Int) : List Int := List.replicate n 0 ++ l
def rowOf (n : Nat) (zs : List Int) : Obj := .cells (zs.map (Value.int .i64)).toArray 3 (0, 0)

theorem run_zeros (n : Nat) (hn : n ≤ 1099511627776) (w : World) : (Instr.makeSlice 26 (.int .i64 n) (.int .i64 n)).run Try.prog w = .ok (.slice (some ⟨w.heap.size, 0, none⟩) n n) (w.alloc (rowOf n (List.replicate n 0))) := by
  obtain ⟨i0, hi, hz0, hz1, hz2⟩ := info_parts Try.infoInt
  have h1 := run_make (P := Try.prog) w 26 3 i0 (.int .i64 0) Try.underlying26 hi hz0 .i64 .i64 n n (by omega) (by omega) (by rw [hz2]; omega) (by omega)
  rw [h1]
  simp only [Int.toNat_natCast, hz1, rowOf]
  have : madeCells (Value.int .i64 0).cells (n * 1) = (List.map (Value.int .i64) (List.replicate n 0)).toArray := by
    apply Array.ext
    · simp [madeCells]
    · intro i h1 h2
      simp [madeCells, Value.cells, Nat.mod_one]
  rw [this]

/-- Sizes, heights as numbers, zeros ahead. -/
def sizesL (j : Nat) (t : List (Nat × Nat)) : List Int := List.replicate j 0 ++ t.map fun p => (p.1 : Int)
def heightsL (j : Nat) (t : List (Nat × Nat)) : List Int := List.replicate j 0 ++ t.map fun p => (p.2 : Int)
theorem row_cell {w : World} {b m i : Nat} {zs : List Int} {x : Int} (h : w.heap[b]? = some (rowOf m zs)) (hx : zs[i]? = some x) : w.cell? ⟨b, i, none⟩ = some (.int .i64 x) := by
  rw [cell_of_cells h]
  simp [hx]
theorem row_free {w : World} {b m : Nat} {zs : List Int} (h : w.heap[b]? = some (rowOf m zs)) (i : Nat) : w.frozen? ⟨b, i, none⟩ = false := free_of_cells h i
theorem row_set {w : World} {b m i : Nat} {zs : List Int} (x : Int) (h : w.heap[b]? = some (rowOf m zs)) : (w.setCell ⟨b, i, none⟩ (.int .i64 x)).heap[b]? = some (rowOf m (zs.set i x)) := by
  rw [heap_setCell_same h]
  simp [rowOf, List.map_set]
theorem zeros_set (j : Nat) (l : List Int) (x : Int) : (List.replicate (j + 1) 0 ++ l).set j x = List.replicate j 0 ++ x :: l := by
  rw [List.replicate_succ', List.append_assoc, List.set_append_right _ _ (by simp)]
  simp
theorem heap_set_ne {w : World} {b c i : Nat} {u : Value} {o : Obj} (h : w.heap[b]? = some o) (hn : b ≠ c) : (w.setCell ⟨c, i, none⟩ u).heap[b]? = some o := (Below.heap_setCell _ _ _ _ (fun e => hn (by simpa using e))).trans h
theorem row_ints {w : World} {b m : Nat} {zs : List Int} (h : w.heap[b]? = some (rowOf m zs)) : Ints w (some ⟨b, 0, none⟩) zs := fun i hi => ⟨b, 0, rfl, by rw [Nat.zero_add]; exact row_cell h (by simp [hi])⟩
def TreeInts (w : World) (a1 : Option Addr) (n1 : Nat) (a2 : Option Addr) (n2 : Nat) (t : List (Nat × Nat)) : Prop :=
  n1 = t.length ∧ n2 = t.length ∧ Ints w a1 (t.map fun p => (p.1 : Int)) ∧ Ints w a2 (t.map fun p => (p.2 : Int))
theorem TreeInts.keep {w w' : World} {a1 a2 : Option Addr} {n1 n2 : Nat} {t : List (Nat × Nat)} (h : TreeInts w a1 n1 a2 n2 t) (k : Kp w w') : TreeInts w' a1 n1 a2 n2 t := ⟨h.1, h.2.1, h.2.2.1.keep k, h.2.2.2.keep k⟩
def OfPost (ns : List Nd) (w : World) (e : Ending) (w' : World) : Prop :=
  ∃ a1 n1 c1 a2 n2 c2, e = .returned (.tuple #[.agg #[.slice a1 n1 c1, .slice a2 n2 c2], .bool (tab ns).isSome]) ∧ Chg [] w w' ∧ (∀ t, tab ns = some t → TreeInts w' a1 n1 a2 n2 t)
theorem three_blocks (w : World) (A B C : Obj) : (((w.alloc A).alloc B).alloc C).drew.heap[w.heap.size]? = some A ∧ (((w.alloc A).alloc B).alloc C).drew.heap[w.heap.size + 1]? = some B ∧ (((w.alloc A).alloc B).alloc C).drew.heap[w.heap.size + 1 + 1]? = some C := by
  have h1 := heap_alloc_same (w.alloc A) B
  have h2 := heap_alloc_same ((w.alloc A).alloc B) C
  simp only [World.size_alloc] at h1 h2
  exact ⟨heap_alloc_lt (heap_alloc_lt (heap_alloc_same w A) B) C, heap_alloc_lt h1 C, h2⟩
theorem sizesL_zero (t : List (Nat × Nat)) : sizesL 0 t = t.map fun p => (p.1 : Int) := by simp [sizesL]
theorem heightsL_zero (t : List (Nat × Nat)) : heightsL 0 t = t.map fun p => (p.2 : Int) := by simp [heightsL]

end Go.Proofs.Ytplpboknmhgpiaa
set_option linter.unusedVariables false
set_option linter.unusedSimpArgs false
namespace Go.Proofs.Ytplpboknmhgpiaa
open Go.RowKit Go.MapKept

theorem findIdx_at {α : Type} {p : α → Bool} {l : List α} {k : Nat} (hk : k < l.length) (hp : p l[k] = true) (hb : ∀ j (h : j < k), p (l[j]'(by omega)) = false) : l.findIdx p = k := by
  rw [List.findIdx_eq (by omega)]
  exact ⟨hp, fun j hj => hb j hj⟩
theorem findIdx_none {α : Type} {p : α → Bool} {l : List α} (hb : ∀ j (h : j < l.length), p l[j] = false) : l.findIdx p = l.length := by
  rw [List.findIdx_eq_length]
  intro x hx
  obtain ⟨j, hj, rfl⟩ := List.mem_iff_getElem.1 hx
  exact hb j hj
/-- The first place, or -1. -/
def idxI {α : Type} (l : List α) (p : α → Bool) : Int := if l.findIdx p < l.length then (l.findIdx p : Int) else -1

end Go.Proofs.Ytplpboknmhgpiaa
set_option linter.unusedVariables false
set_option linter.unusedSimpArgs false
namespace Go.Proofs.Ytplpboknmhgpiaa
open Go.RowKit Go.MapKept Go.Shelf

theorem ruleI_idx (rs : List Rl) (s : ByteArray) : ruleI rs s = idxI rs fun r => r.name.toList == s.toList := rfl

end Go.Proofs.Ytplpboknmhgpiaa
set_option linter.unusedVariables false
set_option linter.unusedSimpArgs false
namespace Go.Proofs.Ytplpboknmhgpiaa
open Go.RowKit Go.MapKept

theorem kind_inj (a b : Int) (h : Value.int .i64 a = Value.int .i64 b) : a = b := by cases h; rfl
theorem Try.keyedKind : Maps.Keyed Try.prog 127 := Maps.int_keyed Try.underlying127
theorem kindKey (k : Int) (h : I64 k) : ∃ l, keyOf Try.prog 127 (.int .i64 k) = some l := ⟨_, Maps.keyOf_int_mk Try.underlying127 h.wf⟩
def shapeF (f : Nat) : Value := .func (.func f) #[] #[]
end Go.Proofs.Ytplpboknmhgpiaa
set_option linter.unusedVariables false
set_option linter.unusedSimpArgs false
namespace Go.Proofs.Ytplpboknmhgpiaa
open Go.RowKit Go.MapKept Go.Shelf

def NodePost (b : Bool) (w : World) (e : Ending) (w' : World) : Prop := e = .returned (.bool b) ∧ Chg [] w w'
end Go.Proofs.Ytplpboknmhgpiaa
set_option linter.unusedVariables false
set_option linter.unusedSimpArgs false
namespace Go.Proofs.Ytplpboknmhgpiaa
open Go.RowKit Go.MapKept Go.Shelf

theorem idxI_any {α : Type} (l : List α) (p : α → Bool) : decide (0 ≤ idxI l p) = l.any p := by
  unfold idxI
  by_cases h : l.findIdx p < l.length
  · rw [if_pos h]
    have h1 : l.any p = true := List.any_eq_true.2 ⟨_, List.getElem_mem h, List.findIdx_getElem (w := h)⟩
    rw [h1]; simp
  · rw [if_neg h]
    have h1 : l.any p = false := by
      rw [List.any_eq_false]
      intro x hx
      have := List.findIdx_eq_length.1 (Nat.le_antisymm List.findIdx_le_length (Nat.le_of_not_lt h)) x hx
      simpa using this
    rw [h1]; simp

def WholePost (g : Gr) (w : World) (e : Ending) (w' : World) : Prop :=
  ∃ a1 n1 c1 a2 n2 c2, e = .returned (.tuple #[.agg #[.slice a1 n1 c1, .slice a2 n2 c2], .bool (wholeT g).isSome]) ∧ Chg [] w w' ∧ (∀ t, wholeT g = some t → TreeInts w' a1 n1 a2 n2 t)
theorem ints_set {w : World} {a : Option Addr} {zs : List Int} {T : Nat} {v0 v1 : Value} {ty : TypeId} {m : Nat × Nat} (h : Ints w a zs) (hT : w.heap[T]? = some (.cells #[v0, v1] ty m)) (h0 : ∀ x, v0 ≠ .int .i64 x) (h1 : ∀ x, v1 ≠ .int .i64 x) (i : Nat) (u : Value) : Ints (w.setCell ⟨T, i, none⟩ u) a zs := by
  intro j hj
  obtain ⟨b, o, e1, e2⟩ := h j hj
  refine ⟨b, o, e1, ?_⟩
  have hne : b ≠ T := by
    intro e
    subst e
    rw [cell_of_cells hT] at e2
    generalize o + j = k at e2
    match k with
    | 0 => simp at e2; exact h0 _ e2
    | 1 => simp at e2; exact h1 _ e2
    | k + 2 => simp at e2
  rw [World.cell?_of_block (w := w) (Below.heap_setCell _ _ _ _ (fun e => hne (by simpa using e)))]
  exact e2

theorem TreeInts.set {w : World} {a1 a2 : Option Addr} {n1 n2 : Nat} {t : List (Nat × Nat)} {T : Nat} {x1 x2 : Option Addr} {p1 p2 q1 q2 : Nat} {ty : TypeId} {m : Nat × Nat} (h : TreeInts w a1 n1 a2 n2 t) (hT : w.heap[T]? = some (.cells #[.slice x1 p1 q1, .slice x2 p2 q2] ty m)) (i : Nat) (u : Value) : TreeInts (w.setCell ⟨T, i, none⟩ u) a1 n1 a2 n2 t :=
  ⟨h.1, h.2.1, ints_set h.2.2.1 hT (by simp) (by simp) i u, ints_set h.2.2.2 hT (by simp) (by simp) i u⟩
/-- Both cells of a tree's block, one behind the other. -/
theorem two_set {w : World} {T : Nat} {v0 v1 x0 x1 : Value} {ty : TypeId} (hT : w.heap[T]? = some (.cells #[v0, v1] ty (0, 0))) : ((w.setCell ⟨T, 0, none⟩ x0).setCell ⟨T, 1, none⟩ x1).heap[T]? = some (.cells #[x0, x1] ty (0, 0)) := by
  have h1 := heap_setCell_same hT 0 x0
  have h2 := heap_setCell_same h1 1 x1
  simpa using h2
theorem tree_two {w : World} {a1 a2 : Option Addr} {n1 n2 : Nat} {t : List (Nat × Nat)} {T : Nat} {x1 x2 : Option Addr} {p1 p2 q1 q2 : Nat} {ty : TypeId} (h : TreeInts w a1 n1 a2 n2 t) (hT : w.heap[T]? = some (.cells #[.slice x1 p1 q1, .slice x2 p2 q2] ty (0, 0))) (y1 y2 : Option Addr) (r1 r2 l1 l2 : Nat) :
    TreeInts ((w.setCell ⟨T, 0, none⟩ (.slice y1 r1 l1)).setCell ⟨T, 1, none⟩ (.slice y2 r2 l2)) a1 n1 a2 n2 t := by
  have h1 := heap_setCell_same hT 0 (.slice y1 r1 l1)
  have h2 := h.set hT 0 (.slice y1 r1 l1)
  exact h2.set (x1 := y1) (p1 := r1) (q1 := l1) (x2 := x2) (p2 := p2) (q2 := q2) (by simpa using h1) 1 _
theorem chainT_at {g : Gr} {t : List (Nat × Nat)} {k x : Nat} (hk : k < g.rules.length) : chainT g t (g.rules.drop k) k x = if nameB g.rules[k].name && decide (ruleI g.rules g.rules[k].name = (k : Int)) && decide (g.rules[k].body = (x : Int)) then
      (match t[x]? with | none => none | some (z, h) => if h ≤ 16 then chainT g t (g.rules.drop (k + 1)) (k + 1) (x + z) else none) else none := by
  rw [List.drop_eq_getElem_cons hk]
  rfl
theorem whole_bad {g : Gr} {t : List (Nat × Nat)} (ht : tab g.nodes = some t) (hc : chainT g t g.rules 0 0 = none) : wholeT g = none := by
  unfold wholeT
  split
  · rw [ht]; simp only [hc]; simp
  · rfl
theorem whole_no {g : Gr} (ht : tab g.nodes = none) : wholeT g = none := by
  unfold wholeT
  split
  · rw [ht]
  · rfl

end Go.Proofs.Ytplpboknmhgpiaa
set_option linter.unusedVariables false
set_option linter.unusedSimpArgs false
namespace Go.Proofs.Ytplpboknmhgpiaa
open Go.RowKit Go.MapKept Go.Shelf

theorem size_none {g : Gr} (h : wholeT g = none) (n : Int) : sizeG g n = 0 ∧ heightG g n = 0 := by unfold sizeG heightG; rw [h]; simp
theorem size_out {g : Gr} {n : Int} (h : ¬ (0 ≤ n ∧ n < g.nodes.length)) : sizeG g n = 0 ∧ heightG g n = 0 := by
  unfold sizeG heightG
  cases wholeT g with
  | none => simp
  | some t => simp only [if_neg h]; simp
theorem size_in {g : Gr} {t : List (Nat × Nat)} {n z h : Nat} (ht : wholeT g = some t) (hn : n < g.nodes.length) (hz : t[n]? = some (z, h)) : sizeG g n = z ∧ heightG g n = h := by
  unfold sizeG heightG
  rw [ht]
  simp only []
  rw [if_pos ⟨by omega, by omega⟩, if_pos ⟨by omega, by omega⟩]
  simp [hz]

theorem owner_idx (rs : List Rl) (n : Int) : idxI rs (fun r => decide (n < r.body)) = if ownerN rs n < rs.length then (ownerN rs n : Int) else -1 := rfl
theorem owner_len (rs : List Rl) (n : Int) : ownerN rs n ≤ rs.length := List.findIdx_le_length

end Go.Proofs.Ytplpboknmhgpiaa
set_option linter.unusedVariables false
set_option linter.unusedSimpArgs false
namespace Go.Proofs.Ytplpboknmhgpiaa
open Go.RowKit Go.MapKept Go.Shelf

/-- What a call may, by ranks as they stand. -/
def callsL (rs : List Int) (q : Int) : Bool := decide (0 ≤ q) && decide (0 < (rs[q.toNat]?).getD 0)
end Go.Proofs.Ytplpboknmhgpiaa
